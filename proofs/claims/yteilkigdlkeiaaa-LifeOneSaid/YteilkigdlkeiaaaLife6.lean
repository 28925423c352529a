/- ref14: possible, Step. -/
import Derived.Test.YteilkigdlkeiaaaLife4
namespace Go.Proofs.Yteilkigdlkeiaaa.Lf
set_option linter.unusedVariables false
set_option linter.unusedSimpArgs false
open Go Go.RowKit

theorem bne_of {x y : Int} {b : Bool} (h : (x == y) = b) : (x != y) = !b := by rw [bne, h]

set_option maxHeartbeats 4000000 in
theorem possible_exact (l : Ln) (e : Ev) (w : World) (hv : validB l = true) (hf : formedB e = true) :
    Calls Try.prog 51 #[l.v, e.v] w fun e' w' => e' = .returned (.bool (mayB l e)) ∧ w' = (w.alloc (.cells #[.int .i64 l.st, .int .i64 l.ho, .int .i64 l.ep, .int .i64 l.si] 26)).alloc (.cells #[.int .i64 e.k, .int .i64 e.a, .int .i64 e.h] 54) := by
  obtain ⟨st, ho, ep, si⟩ := l
  obtain ⟨k, a, h⟩ := e
  have hs := valid_facts hv
  have hg := formed_facts hf
  have HS := Lib.hid (show mayB ⟨st, ho, ep, si⟩ ⟨k, a, h⟩ = mayB ⟨st, ho, ep, si⟩ ⟨k, a, h⟩ from rfl)
  clear hv hf
  show Calls _ _ #[.agg #[.int .i64 st, .int .i64 ho, .int .i64 ep, .int .i64 si], .agg #[.int .i64 k, .int .i64 a, .int .i64 h]] _ fun e' w' => e' = .returned (.bool (mayB ⟨st, ho, ep, si⟩ ⟨k, a, h⟩)) ∧ w' = (w.alloc (.cells #[.int .i64 st, .int .i64 ho, .int .i64 ep, .int .i64 si] 26)).alloc (.cells #[.int .i64 k, .int .i64 a, .int .i64 h] 54)
  generalize hr : mayB ⟨st, ho, ep, si⟩ ⟨k, a, h⟩ = r
  have HR := Lib.hid hr
  clear hr HS
  by_cases hle : a < si
  · obtain rfl : r = false := by rw [← HR.out, mayB, decide_eq_false (show ¬ si ≤ a by omega)]; rfl
    go_enter Try.func51, Try.ntmps51
    go_wp2
    go_ret
    exact ⟨rfl, rfl⟩
  have hle2 : si ≤ a := by omega
  rcases (show k = 1 ∨ k = 2 ∨ k = 3 ∨ k = 4 ∨ k = 5 ∨ k = 6 ∨ k = 7 by omega) with rfl | rfl | rfl | rfl | rfl | rfl | rfl
  all_goals (
    rcases hs.1 with rfl | rfl | rfl | rfl
    all_goals (
      rcases hb : (ho == h) with _ | _
      all_goals (
        have hb' := bne_of hb
        go_enter Try.func51, Try.ntmps51
        go_wp2
        go_ret
        exact ⟨ret_bool (by rw [← HR.out]; simp [mayB, hle2, hb', hb]), rfl⟩)))
end Go.Proofs.Yteilkigdlkeiaaa.Lf
