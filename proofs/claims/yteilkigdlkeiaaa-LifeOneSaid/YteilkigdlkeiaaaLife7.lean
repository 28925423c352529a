/- ref14: Step. -/
import Derived.Test.YteilkigdlkeiaaaLife6
namespace Go.Proofs.Yteilkigdlkeiaaa.Lf
set_option linter.unusedVariables false
set_option linter.unusedSimpArgs false
open Go Go.RowKit

theorem rformed_exact (e : Ev) (w : World) :
    Calls Try.prog 35 #[e.v] w fun e' w' => e' = .returned (.bool (formedB e)) ∧ w' = w.alloc (.cells #[.int .i64 e.k, .int .i64 e.a, .int .i64 e.h] 54) := by
  obtain ⟨k, a, h⟩ := e
  have C := Lib.hid in_any
  have CN := Lib.hid named_any
  have HV := Lib.hid (show formedB ⟨k, a, h⟩ = (inB k 1 7 && inB a 0 10000000 && (if namedB k then inB h 0 63 else h == -1)) from rfl)
  show Calls _ _ #[.agg #[.int .i64 k, .int .i64 a, .int .i64 h]] _ fun e' w' => e' = .returned (.bool (formedB ⟨k, a, h⟩)) ∧ w' = w.alloc (.cells #[.int .i64 k, .int .i64 a, .int .i64 h] 54)
  generalize formedB ⟨k, a, h⟩ = r at HV
  rcases h1 : inB k 1 7 with _ | _ <;> rcases h2 : inB a 0 10000000 with _ | _ <;> rcases h3 : namedB k with _ | _
  all_goals (
    rw [h1, h2, h3] at HV
    go_enter Try.func35, Try.ntmps35
    go_wp2_with (first | (go_at_call 48; refine (C.out _ _ _ _).mono ?_; rintro e w' ⟨rfl, rfl⟩) | (go_at_call 52; refine (CN.out _ _).mono ?_; rintro e w' ⟨rfl, rfl⟩))
    go_ret
    exact ⟨ret_bool (by rw [HV.out]; rfl), rfl⟩)

set_option maxHeartbeats 4000000 in
theorem rstep_any (l : Ln) (e : Ev) (w : World) :
    Calls Try.prog 33 #[l.v, e.v] w fun e' w' => e' = .returned (stepV (step l e)) ∧ Below w.heap.size w w' := by
  obtain ⟨st, ho, ep, si⟩ := l
  obtain ⟨k, a, h⟩ := e
  have C1 := Lib.hid (rvalid_exact ⟨st, ho, ep, si⟩)
  have C2 := Lib.hid (rformed_exact ⟨k, a, h⟩)
  show Calls _ _ #[.agg #[.int .i64 st, .int .i64 ho, .int .i64 ep, .int .i64 si], .agg #[.int .i64 k, .int .i64 a, .int .i64 h]] _ _
  rcases h1 : validB ⟨st, ho, ep, si⟩ with _ | _
  · rw [h1] at C1
    rw [show step ⟨st, ho, ep, si⟩ ⟨k, a, h⟩ = none by rw [step, h1]; rfl]
    go_enter Try.func33, Try.ntmps33
    go_wp2_with fail
    refine (C1.out _).mono ?_
    rintro e w1 ⟨rfl, rfl⟩
    go_wp2_with fail
    refine bodyPost_ret (v := stepV none) (by rw [results_cell_tmp rfl]; go_simp; rfl) rfl ⟨rfl, ?_⟩
    repeat (first | exact Below.refl _ _ | refine Below.drew ?_ | refine Below.setCell ?_ (by simp <;> omega) _ | refine Below.alloc ?_ (by simp <;> omega) _)
  rw [h1] at C1
  rcases h2 : formedB ⟨k, a, h⟩ with _ | _
  · rw [h2] at C2
    rw [show step ⟨st, ho, ep, si⟩ ⟨k, a, h⟩ = none by rw [step, h1, h2]; rfl]
    go_enter Try.func33, Try.ntmps33
    go_wp2_with fail
    refine (C1.out _).mono ?_
    rintro e w1 ⟨rfl, rfl⟩
    go_wp2_with fail
    refine (C2.out _).mono ?_
    rintro e w1 ⟨rfl, rfl⟩
    go_wp2_with fail
    refine bodyPost_ret (v := stepV none) (by rw [results_cell_tmp rfl]; go_simp; rfl) rfl ⟨rfl, ?_⟩
    repeat (first | exact Below.refl _ _ | refine Below.drew ?_ | refine Below.setCell ?_ (by simp <;> omega) _ | refine Below.alloc ?_ (by simp <;> omega) _)
  rw [h2] at C2
  have C3 := Lib.hid (fun w => possible_exact ⟨st, ho, ep, si⟩ ⟨k, a, h⟩ w h1 h2)
  have hs := valid_facts h1
  have hg := formed_facts h2
  have HS := Lib.hid (show step ⟨st, ho, ep, si⟩ ⟨k, a, h⟩ = if mayB ⟨st, ho, ep, si⟩ ⟨k, a, h⟩ then some (nextL ⟨st, ho, ep, si⟩ ⟨k, a, h⟩) else none by rw [step, h1, h2]; rfl)
  generalize step ⟨st, ho, ep, si⟩ ⟨k, a, h⟩ = r at HS
  rcases h3 : mayB ⟨st, ho, ep, si⟩ ⟨k, a, h⟩ with _ | _
  · rw [h3] at C3 HS
    obtain rfl : r = none := HS.out
    clear h1 h2 h3
    go_enter Try.func33, Try.ntmps33
    go_wp2_with fail
    refine (C1.out _).mono ?_
    rintro e w1 ⟨rfl, rfl⟩
    go_wp2_with fail
    refine (C2.out _).mono ?_
    rintro e w1 ⟨rfl, rfl⟩
    go_wp2_with fail
    refine (C3.out _).mono ?_
    rintro e w1 ⟨rfl, rfl⟩
    go_wp2_with fail
    refine bodyPost_ret (v := stepV none) (by rw [results_cell_tmp rfl]; go_simp; rfl) rfl ⟨rfl, ?_⟩
    repeat (first | exact Below.refl _ _ | refine Below.drew ?_ | refine Below.setCell ?_ (by simp <;> omega) _ | refine Below.alloc ?_ (by simp <;> omega) _)
  rw [h3] at C3 HS
  clear h1 h2 h3
  rcases (show k = 1 ∨ k = 2 ∨ k = 3 ∨ k = 4 ∨ k = 5 ∨ k = 6 ∨ k = 7 by omega) with rfl | rfl | rfl | rfl | rfl | rfl | rfl
  all_goals (
    obtain rfl := HS.out
    go_enter Try.func33, Try.ntmps33
    go_wp2_with fail
    refine (C1.out _).mono ?_
    rintro e w1 ⟨rfl, rfl⟩
    go_wp2_with fail
    refine (C2.out _).mono ?_
    rintro e w1 ⟨rfl, rfl⟩
    go_wp2_with fail
    refine (C3.out _).mono ?_
    rintro e w1 ⟨rfl, rfl⟩
    go_wp2_with fail
    refine bodyPost_ret (v := stepV (some (nextL _ _))) (by rw [results_cell_tmp rfl]; go_simp; rfl) rfl ⟨rfl, ?_⟩
    repeat (first | exact Below.refl _ _ | refine Below.drew ?_ | refine Below.setCell ?_ (by simp <;> omega) _ | refine Below.alloc ?_ (by simp <;> omega) _))
end Go.Proofs.Yteilkigdlkeiaaa.Lf
