/- life: Formed, the small tests. -/
import Derived.Test.YteilkigdlkeiaaaLife1
import Derived.Deep.RegionWith
import Derived.Laws.ResultCell
namespace Go.Proofs.Yteilkigdlkeiaaa.Lf
set_option linter.unusedVariables false
set_option linter.unusedSimpArgs false
open Go Go.RowKit

theorem below_two (w : World) (o1 o2 : Obj) : Below w.heap.size w ((w.alloc o1).alloc o2).drew := (((Below.refl _ _).alloc (Nat.le_refl _) o1).alloc (by simp) o2).drew
theorem ret_bool {a b : Bool} (h : a = b) : Ending.returned (.bool a) = .returned (.bool b) := by rw [h]

def ruleCells : Array Value := #[.int .i64 0, .int .i64 0, .bool false, .int .i64 1, .int .i64 1, .bool true, .int .i64 2, .int .i64 1, .bool true, .int .i64 2, .int .i64 2, .bool false, .int .i64 4, .int .i64 1, .bool false, .int .i64 6, .int .i64 3, .bool false, .int .i64 8, .int .i64 1, .bool false, .int .i64 8, .int .i64 0, .bool false]

set_option maxHeartbeats 4000000 in
theorem formed_exact (e : Ev) (w : World) :
    Calls Try.prog 34 #[e.v] w fun e' w' => e' = .returned (.bool (formedB e)) ∧ ((formedB e = false ∧ w' = w.alloc (.cells #[.int .i64 e.k, .int .i64 e.a, .int .i64 e.h] 54)) ∨ w' = ((w.alloc (.cells #[.int .i64 e.k, .int .i64 e.a, .int .i64 e.h] 54)).alloc (.cells ruleCells 85)).drew) := by
  obtain ⟨k, a, h⟩ := e
  have C := Lib.hid isIn_any
  have HV := Lib.hid (show formedB ⟨k, a, h⟩ = (inB k 1 7 && inB a 0 10000000 && (if namedB k then inB h 0 63 else h == -1)) from rfl)
  show Calls _ _ #[.agg #[.int .i64 k, .int .i64 a, .int .i64 h]] _ fun e' w' => e' = .returned (.bool (formedB ⟨k, a, h⟩)) ∧ ((formedB ⟨k, a, h⟩ = false ∧ w' = w.alloc (.cells #[.int .i64 k, .int .i64 a, .int .i64 h] 54)) ∨ w' = ((w.alloc (.cells #[.int .i64 k, .int .i64 a, .int .i64 h] 54)).alloc (.cells ruleCells 85)).drew)
  generalize formedB ⟨k, a, h⟩ = r at HV
  rcases h1 : inB k 1 7 with _ | _
  · obtain rfl : r = false := by rw [HV.out, h1]; rfl
    go_enter Try.func34, Try.ntmps34
    go_wp2_with (go_at_call 47; refine (C.out _ _ _ _).mono ?_; rintro e w' ⟨rfl, rfl⟩)
    go_ret
    exact ⟨rfl, .inl ⟨by simp, rfl⟩⟩
  rcases h2 : inB a 0 10000000 with _ | _
  · obtain rfl : r = false := by rw [HV.out, h1, h2]; rfl
    go_enter Try.func34, Try.ntmps34
    go_wp2_with (go_at_call 47; refine (C.out _ _ _ _).mono ?_; rintro e w' ⟨rfl, rfl⟩)
    go_ret
    exact ⟨rfl, .inl ⟨by simp, rfl⟩⟩
  have hk : k = 1 ∨ k = 2 ∨ k = 3 ∨ k = 4 ∨ k = 5 ∨ k = 6 ∨ k = 7 := by simp only [inB, Bool.and_eq_true, decide_eq_true_eq] at h1; omega
  have HR := Lib.hid (show r = if namedB k then inB h 0 63 else h == -1 by rw [HV.out, h1, h2]; rfl)
  clear HV
  rcases hk with rfl | rfl | rfl | rfl | rfl | rfl | rfl
  all_goals (
    go_enter Try.func34, Try.ntmps34
    go_wp2_with (go_at_call 47; refine (C.out _ _ _ _).mono ?_; rintro e w' ⟨rfl, rfl⟩)
    go_region_with (go_at_call 50; refine (rules_any _).mono ?_; rintro e w' ⟨rfl, rfl⟩)
    all_goals (
      go_wp2_with (go_at_call 47; refine (C.out _ _ _ _).mono ?_; rintro e w' ⟨rfl, rfl⟩)
      go_ret
      exact ⟨ret_bool (by rw [HR.out]; rfl), Or.inr rfl⟩))

theorem formed_any (e : Ev) (w : World) :
    Calls Try.prog 34 #[e.v] w fun e' w' => e' = .returned (.bool (formedB e)) ∧ Below w.heap.size w w' :=
  (formed_exact e w).mono fun e' w' ⟨h1, h2⟩ => ⟨h1, by
    rcases h2 with ⟨_, h2⟩ | h2
    · rw [h2]; exact (Below.refl _ _).alloc (Nat.le_refl _) _
    · rw [h2]; exact below_two _ _ _⟩

theorem rformed_any (e : Ev) (w : World) :
    Calls Try.prog 35 #[e.v] w fun e' w' => e' = .returned (.bool (formedB e)) ∧ Below w.heap.size w w' := by
  obtain ⟨k, a, h⟩ := e
  have C := Lib.hid in_any
  have CN := Lib.hid named_any
  have HV := Lib.hid (show formedB ⟨k, a, h⟩ = (inB k 1 7 && inB a 0 10000000 && (if namedB k then inB h 0 63 else h == -1)) from rfl)
  show Calls _ _ #[.agg #[.int .i64 k, .int .i64 a, .int .i64 h]] _ _
  generalize formedB ⟨k, a, h⟩ = r at HV
  rcases h1 : inB k 1 7 with _ | _ <;> rcases h2 : inB a 0 10000000 with _ | _ <;> rcases h3 : namedB k with _ | _
  all_goals (
    rw [h1, h2, h3] at HV
    go_enter Try.func35, Try.ntmps35
    go_wp2_with (first | (go_at_call 48; refine (C.out _ _ _ _).mono ?_; rintro e w' ⟨rfl, rfl⟩) | (go_at_call 52; refine (CN.out _ _).mono ?_; rintro e w' ⟨rfl, rfl⟩))
    go_ret
    exact ⟨ret_bool (by rw [HV.out]; rfl), (Below.refl _ _).alloc (Nat.le_refl _) _⟩)

theorem used_any (l : Ln) (w : World) :
    Calls Try.prog 43 #[l.v] w fun e' w' => e' = .returned (.bool (usedB l)) ∧ Below w.heap.size w w' := by
  obtain ⟨st, ho, ep, si⟩ := l
  show Calls _ _ #[.agg #[.int .i64 st, .int .i64 ho, .int .i64 ep, .int .i64 si]] _ fun e' w' => e' = .returned (.bool (st == 1 || st == 2)) ∧ _
  rcases h1 : (st == 1) with _ | _
  all_goals (
    go_enter Try.func43, Try.ntmps43
    go_wp2
    go_ret
    exact ⟨rfl, (Below.refl _ _).alloc (Nat.le_refl _) _⟩)

theorem rused_any (l : Ln) (w : World) :
    Calls Try.prog 46 #[l.v] w fun e' w' => e' = .returned (.bool (usedB l)) ∧ Below w.heap.size w w' := by
  obtain ⟨st, ho, ep, si⟩ := l
  show Calls _ _ #[.agg #[.int .i64 st, .int .i64 ho, .int .i64 ep, .int .i64 si]] _ fun e' w' => e' = .returned (.bool (st == 1 || st == 2)) ∧ _
  rcases h1 : (st == 1) with _ | _
  all_goals (
    go_enter Try.func46, Try.ntmps46
    go_wp2
    go_ret
    exact ⟨rfl, (Below.refl _ _).alloc (Nat.le_refl _) _⟩)

end Go.Proofs.Yteilkigdlkeiaaa.Lf
