/- life.Step at events of kind 5. life.Step at events of kind 6. life.Step at events of kind 7. life.Step, by its contract. ref14: possible, Step. ref14: Step. -/
import Derived.Test.YteilkigdlkeiaaaG1
import Derived.Test.YteilkigdlkeiaaaG2
namespace Go.Proofs.Yteilkigdlkeiaaa.Lf
set_option linter.unusedVariables false
set_option linter.unusedSimpArgs false
open Go Go.RowKit

set_option maxHeartbeats 2000000 in
theorem step_5 (st ho ep si a h : Int) (w : World) (hv : validB ⟨st, ho, ep, si⟩ = true) (hf : formedB ⟨5, a, h⟩ = true) (hle : si ≤ a) :
    Calls Try.prog 32 #[.agg #[.int .i64 st, .int .i64 ho, .int .i64 ep, .int .i64 si], .agg #[.int .i64 5, .int .i64 a, .int .i64 h]] w fun e' w' => e' = .returned (stepV (step ⟨st, ho, ep, si⟩ ⟨5, a, h⟩)) ∧ Below w.heap.size w w' := by
  have C1 := Lib.hid (valid_exact ⟨st, ho, ep, si⟩)
  have C2 := Lib.hid (formed_true 5 a h hf)
  have hs := valid_facts hv
  have hg := formed_facts hf
  have HS := Lib.hid (show step ⟨st, ho, ep, si⟩ ⟨5, a, h⟩ = if mayB ⟨st, ho, ep, si⟩ ⟨5, a, h⟩ then some (nextL ⟨st, ho, ep, si⟩ ⟨5, a, h⟩) else none by rw [step, hv, hf]; rfl)
  rw [hv] at C1
  generalize step ⟨st, ho, ep, si⟩ ⟨5, a, h⟩ = r at HS
  have hnot : ¬ a < si := by omega
  clear hv hf
  go_enter Try.func32, Try.ntmps32
  go_wp2_with fail
  refine (C1.out _).mono ?_
  rintro e w1 ⟨rfl, rfl⟩
  go_wp2_with fail
  refine (C2.out _).mono ?_
  rintro e w1 ⟨rfl, rfl⟩
  go_upto_region 3 with fail
  generalize hW : (((((w.alloc (.cells #[.int .i64 st, .int .i64 ho, .int .i64 ep, .int .i64 si] 26)).alloc (.cells #[.int .i64 5, .int .i64 a, .int .i64 h] 54)).alloc (.cells #[.int .i64 0, .int .i64 0, .int .i64 0, .int .i64 0] 26)).alloc (.cells #[.int .i64 st, .int .i64 ho, .int .i64 ep, .int .i64 si] 26)).alloc (.cells #[.int .i64 5, .int .i64 a, .int .i64 h] 54)).alloc (.cells ruleCells 85) = W0
  have hk : W0.cell? ⟨w.heap.size + 1, 0, none⟩ = some (.int .i64 5) := by subst hW; go_simp
  have hlt : w.heap.size + 1 < W0.heap.size := by subst hW; simp
  have hk1 : ∀ o, (W0.alloc o).cell? ⟨w.heap.size + 1, 0, none⟩ = some (.int .i64 5) := fun o => by rw [← hk]; exact World.cell?_of_block (w := W0) (Below.heap_alloc W0 o _ hlt)
  have hk2 : ∀ o o2, ((W0.alloc o).alloc o2).cell? ⟨w.heap.size + 1, 0, none⟩ = some (.int .i64 5) := fun o o2 => by rw [← hk1 o]; exact World.cell?_of_block (w := W0.alloc o) (Below.heap_alloc (W0.alloc o) o2 _ (by simp; omega))
  have HW := Lib.hid hW
  clear hW
  go_cut [6] from 23 to 27 (fun s6 wx => (s6 = .pointer (some ⟨W0.heap.size + 1, 0, none⟩) ∧ wx = ((W0.alloc (.cells ruleCells 85)).alloc (.cells #[.int .i64 6, .int .i64 3, .bool false] 85)).drew.drew) ∨ (s6 = .pointer (some ⟨W0.heap.size, 0, none⟩) ∧ wx = ((W0.alloc (.cells #[.int .i64 6, .int .i64 3, .bool false] 85)).alloc (.cells ruleCells 85)).drew.drew))
  case first =>
    go_region_with (go_at_call 50; refine (rules_any _).mono ?_; rintro e w' ⟨rfl, rfl⟩)
    all_goals (go_wp2_with fail; go_meet; first | exact .inl ⟨rfl, rfl⟩ | exact .inr ⟨rfl, rfl⟩)
  case rest =>
  have hW := HW.out
  clear HW hk hk1 hk2 hlt C1 C2
  subst hW
  rcases hs.1 with rfl | rfl | rfl | rfl
  · obtain rfl : r = none := by rw [HS.out]; simp [mayB]
    rcases hcut with ⟨rfl, rfl⟩ | ⟨rfl, rfl⟩
    all_goals (
      go_wp2_with fail
      refine bodyPost_ret (v := stepV none) (by rw [results_cell_tmp rfl]; go_simp; rfl) rfl ⟨rfl, ?_⟩
      repeat (first | exact Below.refl _ _ | refine Below.drew ?_ | refine Below.setCell ?_ (by simp <;> omega) _ | refine Below.alloc ?_ (by simp <;> omega) _))
  · obtain rfl : r = some ⟨3, ho, ep, a⟩ := by rw [HS.out]; simp [mayB, nextL, namedB, hle]
    rcases hcut with ⟨rfl, rfl⟩ | ⟨rfl, rfl⟩
    all_goals (
      go_wp2_with fail
      go_region
      go_wp2_with fail
      refine bodyPost_ret (v := stepV (some ⟨3, ho, ep, a⟩)) (by rw [results_cell_tmp rfl]; go_simp; rfl) rfl ⟨rfl, ?_⟩
      repeat (first | exact Below.refl _ _ | refine Below.drew ?_ | refine Below.setCell ?_ (by simp <;> omega) _ | refine Below.alloc ?_ (by simp <;> omega) _))
  · obtain rfl : r = some ⟨3, ho, ep, a⟩ := by rw [HS.out]; simp [mayB, nextL, namedB, hle]
    rcases hcut with ⟨rfl, rfl⟩ | ⟨rfl, rfl⟩
    all_goals (
      go_wp2_with fail
      go_region
      go_wp2_with fail
      refine bodyPost_ret (v := stepV (some ⟨3, ho, ep, a⟩)) (by rw [results_cell_tmp rfl]; go_simp; rfl) rfl ⟨rfl, ?_⟩
      repeat (first | exact Below.refl _ _ | refine Below.drew ?_ | refine Below.setCell ?_ (by simp <;> omega) _ | refine Below.alloc ?_ (by simp <;> omega) _))
  · obtain rfl : r = none := by rw [HS.out]; simp [mayB]
    rcases hcut with ⟨rfl, rfl⟩ | ⟨rfl, rfl⟩
    all_goals (
      go_wp2_with fail
      refine bodyPost_ret (v := stepV none) (by rw [results_cell_tmp rfl]; go_simp; rfl) rfl ⟨rfl, ?_⟩
      repeat (first | exact Below.refl _ _ | refine Below.drew ?_ | refine Below.setCell ?_ (by simp <;> omega) _ | refine Below.alloc ?_ (by simp <;> omega) _))
end Go.Proofs.Yteilkigdlkeiaaa.Lf

namespace Go.Proofs.Yteilkigdlkeiaaa.Lf
set_option linter.unusedVariables false
set_option linter.unusedSimpArgs false
open Go Go.RowKit

set_option maxHeartbeats 2000000 in
theorem step_6 (st ho ep si a h : Int) (w : World) (hv : validB ⟨st, ho, ep, si⟩ = true) (hf : formedB ⟨6, a, h⟩ = true) (hle : si ≤ a) :
    Calls Try.prog 32 #[.agg #[.int .i64 st, .int .i64 ho, .int .i64 ep, .int .i64 si], .agg #[.int .i64 6, .int .i64 a, .int .i64 h]] w fun e' w' => e' = .returned (stepV (step ⟨st, ho, ep, si⟩ ⟨6, a, h⟩)) ∧ Below w.heap.size w w' := by
  have C1 := Lib.hid (valid_exact ⟨st, ho, ep, si⟩)
  have C2 := Lib.hid (formed_true 6 a h hf)
  have hs := valid_facts hv
  have hg := formed_facts hf
  have HS := Lib.hid (show step ⟨st, ho, ep, si⟩ ⟨6, a, h⟩ = if mayB ⟨st, ho, ep, si⟩ ⟨6, a, h⟩ then some (nextL ⟨st, ho, ep, si⟩ ⟨6, a, h⟩) else none by rw [step, hv, hf]; rfl)
  rw [hv] at C1
  generalize step ⟨st, ho, ep, si⟩ ⟨6, a, h⟩ = r at HS
  have hnot : ¬ a < si := by omega
  clear hv hf
  go_enter Try.func32, Try.ntmps32
  go_wp2_with fail
  refine (C1.out _).mono ?_
  rintro e w1 ⟨rfl, rfl⟩
  go_wp2_with fail
  refine (C2.out _).mono ?_
  rintro e w1 ⟨rfl, rfl⟩
  go_upto_region 3 with fail
  generalize hW : (((((w.alloc (.cells #[.int .i64 st, .int .i64 ho, .int .i64 ep, .int .i64 si] 26)).alloc (.cells #[.int .i64 6, .int .i64 a, .int .i64 h] 54)).alloc (.cells #[.int .i64 0, .int .i64 0, .int .i64 0, .int .i64 0] 26)).alloc (.cells #[.int .i64 st, .int .i64 ho, .int .i64 ep, .int .i64 si] 26)).alloc (.cells #[.int .i64 6, .int .i64 a, .int .i64 h] 54)).alloc (.cells ruleCells 85) = W0
  have hk : W0.cell? ⟨w.heap.size + 1, 0, none⟩ = some (.int .i64 6) := by subst hW; go_simp
  have hlt : w.heap.size + 1 < W0.heap.size := by subst hW; simp
  have hk1 : ∀ o, (W0.alloc o).cell? ⟨w.heap.size + 1, 0, none⟩ = some (.int .i64 6) := fun o => by rw [← hk]; exact World.cell?_of_block (w := W0) (Below.heap_alloc W0 o _ hlt)
  have hk2 : ∀ o o2, ((W0.alloc o).alloc o2).cell? ⟨w.heap.size + 1, 0, none⟩ = some (.int .i64 6) := fun o o2 => by rw [← hk1 o]; exact World.cell?_of_block (w := W0.alloc o) (Below.heap_alloc (W0.alloc o) o2 _ (by simp; omega))
  have HW := Lib.hid hW
  clear hW
  go_cut [6] from 23 to 27 (fun s6 wx => (s6 = .pointer (some ⟨W0.heap.size + 1, 0, none⟩) ∧ wx = ((W0.alloc (.cells ruleCells 85)).alloc (.cells #[.int .i64 8, .int .i64 1, .bool false] 85)).drew.drew) ∨ (s6 = .pointer (some ⟨W0.heap.size, 0, none⟩) ∧ wx = ((W0.alloc (.cells #[.int .i64 8, .int .i64 1, .bool false] 85)).alloc (.cells ruleCells 85)).drew.drew))
  case first =>
    go_region_with (go_at_call 50; refine (rules_any _).mono ?_; rintro e w' ⟨rfl, rfl⟩)
    all_goals (go_wp2_with fail; go_meet; first | exact .inl ⟨rfl, rfl⟩ | exact .inr ⟨rfl, rfl⟩)
  case rest =>
  have hW := HW.out
  clear HW hk hk1 hk2 hlt C1 C2
  subst hW
  rcases hs.1 with rfl | rfl | rfl | rfl
  · obtain rfl : r = none := by rw [HS.out]; simp [mayB]
    rcases hcut with ⟨rfl, rfl⟩ | ⟨rfl, rfl⟩
    all_goals (
      go_wp2_with fail
      refine bodyPost_ret (v := stepV none) (by rw [results_cell_tmp rfl]; go_simp; rfl) rfl ⟨rfl, ?_⟩
      repeat (first | exact Below.refl _ _ | refine Below.drew ?_ | refine Below.setCell ?_ (by simp <;> omega) _ | refine Below.alloc ?_ (by simp <;> omega) _))
  · obtain rfl : r = none := by rw [HS.out]; simp [mayB]
    rcases hcut with ⟨rfl, rfl⟩ | ⟨rfl, rfl⟩
    all_goals (
      go_wp2_with fail
      refine bodyPost_ret (v := stepV none) (by rw [results_cell_tmp rfl]; go_simp; rfl) rfl ⟨rfl, ?_⟩
      repeat (first | exact Below.refl _ _ | refine Below.drew ?_ | refine Below.setCell ?_ (by simp <;> omega) _ | refine Below.alloc ?_ (by simp <;> omega) _))
  · obtain rfl : r = none := by rw [HS.out]; simp [mayB]
    rcases hcut with ⟨rfl, rfl⟩ | ⟨rfl, rfl⟩
    all_goals (
      go_wp2_with fail
      refine bodyPost_ret (v := stepV none) (by rw [results_cell_tmp rfl]; go_simp; rfl) rfl ⟨rfl, ?_⟩
      repeat (first | exact Below.refl _ _ | refine Below.drew ?_ | refine Below.setCell ?_ (by simp <;> omega) _ | refine Below.alloc ?_ (by simp <;> omega) _))
  · obtain rfl : r = some ⟨1, ho, ep, a⟩ := by rw [HS.out]; simp [mayB, nextL, namedB, hle]
    rcases hcut with ⟨rfl, rfl⟩ | ⟨rfl, rfl⟩
    all_goals (
      go_wp2_with fail
      go_region
      go_wp2_with fail
      refine bodyPost_ret (v := stepV (some ⟨1, ho, ep, a⟩)) (by rw [results_cell_tmp rfl]; go_simp; rfl) rfl ⟨rfl, ?_⟩
      repeat (first | exact Below.refl _ _ | refine Below.drew ?_ | refine Below.setCell ?_ (by simp <;> omega) _ | refine Below.alloc ?_ (by simp <;> omega) _))
end Go.Proofs.Yteilkigdlkeiaaa.Lf

namespace Go.Proofs.Yteilkigdlkeiaaa.Lf
set_option linter.unusedVariables false
set_option linter.unusedSimpArgs false
open Go Go.RowKit

set_option maxHeartbeats 2000000 in
theorem step_7 (st ho ep si a h : Int) (w : World) (hv : validB ⟨st, ho, ep, si⟩ = true) (hf : formedB ⟨7, a, h⟩ = true) (hle : si ≤ a) :
    Calls Try.prog 32 #[.agg #[.int .i64 st, .int .i64 ho, .int .i64 ep, .int .i64 si], .agg #[.int .i64 7, .int .i64 a, .int .i64 h]] w fun e' w' => e' = .returned (stepV (step ⟨st, ho, ep, si⟩ ⟨7, a, h⟩)) ∧ Below w.heap.size w w' := by
  have C1 := Lib.hid (valid_exact ⟨st, ho, ep, si⟩)
  have C2 := Lib.hid (formed_true 7 a h hf)
  have hs := valid_facts hv
  have hg := formed_facts hf
  have HS := Lib.hid (show step ⟨st, ho, ep, si⟩ ⟨7, a, h⟩ = if mayB ⟨st, ho, ep, si⟩ ⟨7, a, h⟩ then some (nextL ⟨st, ho, ep, si⟩ ⟨7, a, h⟩) else none by rw [step, hv, hf]; rfl)
  rw [hv] at C1
  generalize step ⟨st, ho, ep, si⟩ ⟨7, a, h⟩ = r at HS
  have hnot : ¬ a < si := by omega
  clear hv hf
  go_enter Try.func32, Try.ntmps32
  go_wp2_with fail
  refine (C1.out _).mono ?_
  rintro e w1 ⟨rfl, rfl⟩
  go_wp2_with fail
  refine (C2.out _).mono ?_
  rintro e w1 ⟨rfl, rfl⟩
  go_upto_region 3 with fail
  generalize hW : (((((w.alloc (.cells #[.int .i64 st, .int .i64 ho, .int .i64 ep, .int .i64 si] 26)).alloc (.cells #[.int .i64 7, .int .i64 a, .int .i64 h] 54)).alloc (.cells #[.int .i64 0, .int .i64 0, .int .i64 0, .int .i64 0] 26)).alloc (.cells #[.int .i64 st, .int .i64 ho, .int .i64 ep, .int .i64 si] 26)).alloc (.cells #[.int .i64 7, .int .i64 a, .int .i64 h] 54)).alloc (.cells ruleCells 85) = W0
  have hk : W0.cell? ⟨w.heap.size + 1, 0, none⟩ = some (.int .i64 7) := by subst hW; go_simp
  have hlt : w.heap.size + 1 < W0.heap.size := by subst hW; simp
  have hk1 : ∀ o, (W0.alloc o).cell? ⟨w.heap.size + 1, 0, none⟩ = some (.int .i64 7) := fun o => by rw [← hk]; exact World.cell?_of_block (w := W0) (Below.heap_alloc W0 o _ hlt)
  have hk2 : ∀ o o2, ((W0.alloc o).alloc o2).cell? ⟨w.heap.size + 1, 0, none⟩ = some (.int .i64 7) := fun o o2 => by rw [← hk1 o]; exact World.cell?_of_block (w := W0.alloc o) (Below.heap_alloc (W0.alloc o) o2 _ (by simp; omega))
  have HW := Lib.hid hW
  clear hW
  go_cut [6] from 23 to 27 (fun s6 wx => (s6 = .pointer (some ⟨W0.heap.size + 1, 0, none⟩) ∧ wx = ((W0.alloc (.cells ruleCells 85)).alloc (.cells #[.int .i64 8, .int .i64 0, .bool false] 85)).drew.drew) ∨ (s6 = .pointer (some ⟨W0.heap.size, 0, none⟩) ∧ wx = ((W0.alloc (.cells #[.int .i64 8, .int .i64 0, .bool false] 85)).alloc (.cells ruleCells 85)).drew.drew))
  case first =>
    go_region_with (go_at_call 50; refine (rules_any _).mono ?_; rintro e w' ⟨rfl, rfl⟩)
    all_goals (go_wp2_with fail; go_meet; first | exact .inl ⟨rfl, rfl⟩ | exact .inr ⟨rfl, rfl⟩)
  case rest =>
  have hW := HW.out
  clear HW hk hk1 hk2 hlt C1 C2
  subst hW
  rcases hs.1 with rfl | rfl | rfl | rfl
  · obtain rfl : r = none := by rw [HS.out]; simp [mayB]
    rcases hcut with ⟨rfl, rfl⟩ | ⟨rfl, rfl⟩
    all_goals (
      go_wp2_with fail
      refine bodyPost_ret (v := stepV none) (by rw [results_cell_tmp rfl]; go_simp; rfl) rfl ⟨rfl, ?_⟩
      repeat (first | exact Below.refl _ _ | refine Below.drew ?_ | refine Below.setCell ?_ (by simp <;> omega) _ | refine Below.alloc ?_ (by simp <;> omega) _))
  · obtain rfl : r = none := by rw [HS.out]; simp [mayB]
    rcases hcut with ⟨rfl, rfl⟩ | ⟨rfl, rfl⟩
    all_goals (
      go_wp2_with fail
      refine bodyPost_ret (v := stepV none) (by rw [results_cell_tmp rfl]; go_simp; rfl) rfl ⟨rfl, ?_⟩
      repeat (first | exact Below.refl _ _ | refine Below.drew ?_ | refine Below.setCell ?_ (by simp <;> omega) _ | refine Below.alloc ?_ (by simp <;> omega) _))
  · obtain rfl : r = none := by rw [HS.out]; simp [mayB]
    rcases hcut with ⟨rfl, rfl⟩ | ⟨rfl, rfl⟩
    all_goals (
      go_wp2_with fail
      refine bodyPost_ret (v := stepV none) (by rw [results_cell_tmp rfl]; go_simp; rfl) rfl ⟨rfl, ?_⟩
      repeat (first | exact Below.refl _ _ | refine Below.drew ?_ | refine Below.setCell ?_ (by simp <;> omega) _ | refine Below.alloc ?_ (by simp <;> omega) _))
  · by_cases hq : a - si < 2592000
    · obtain rfl : r = none := by rw [HS.out]; simp [mayB]; omega
      rcases hcut with ⟨rfl, rfl⟩ | ⟨rfl, rfl⟩
      all_goals (
        go_wp2_with fail
        refine bodyPost_ret (v := stepV none) (by rw [results_cell_tmp rfl]; go_simp; rfl) rfl ⟨rfl, ?_⟩
        repeat (first | exact Below.refl _ _ | refine Below.drew ?_ | refine Below.setCell ?_ (by simp <;> omega) _ | refine Below.alloc ?_ (by simp <;> omega) _))
    · have hq2 : si + 2592000 ≤ a := by omega
      obtain rfl : r = some ⟨0, -1, ep, a⟩ := by rw [HS.out]; simp [mayB, nextL, namedB, hle, hq2]
      rcases hcut with ⟨rfl, rfl⟩ | ⟨rfl, rfl⟩
      all_goals (
        go_wp2_with fail
        go_region
        go_wp2_with fail
        refine bodyPost_ret (v := stepV (some ⟨0, -1, ep, a⟩)) (by rw [results_cell_tmp rfl]; go_simp; rfl) rfl ⟨rfl, ?_⟩
        repeat (first | exact Below.refl _ _ | refine Below.drew ?_ | refine Below.setCell ?_ (by simp <;> omega) _ | refine Below.alloc ?_ (by simp <;> omega) _))
end Go.Proofs.Yteilkigdlkeiaaa.Lf

namespace Go.Proofs.Yteilkigdlkeiaaa.Lf
set_option linter.unusedVariables false
set_option linter.unusedSimpArgs false
open Go Go.RowKit

theorem step_any (l : Ln) (e : Ev) (w : World) :
    Calls Try.prog 32 #[l.v, e.v] w fun e' w' => e' = .returned (stepV (step l e)) ∧ Below w.heap.size w w' := by
  rcases h1 : validB l with _ | _
  · have : step l e = none := by rw [step, h1]; rfl
    rw [this]; exact step_early l e w (.inl h1)
  rcases h2 : formedB e with _ | _
  · have : step l e = none := by rw [step, h1, h2]; rfl
    rw [this]; exact step_early l e w (.inr (.inl ⟨h1, h2⟩))
  by_cases h3 : e.a < l.si
  · have : step l e = none := by
      have h4 : decide (l.si ≤ e.a) = false := decide_eq_false (by omega)
      rw [step, h1, h2, mayB, h4]; rfl
    rw [this]; exact step_early l e w (.inr (.inr ⟨h1, h2, h3⟩))
  · obtain ⟨st, ho, ep, si⟩ := l
    obtain ⟨k, a, h⟩ := e
    have h4 : si ≤ a := by simp only at h3; omega
    have hk := formed_facts h2
    rcases (show k = 1 ∨ k = 2 ∨ k = 3 ∨ k = 4 ∨ k = 5 ∨ k = 6 ∨ k = 7 by omega) with rfl | rfl | rfl | rfl | rfl | rfl | rfl
    · exact step_1 st ho ep si a h w h1 h2 h4
    · exact step_2 st ho ep si a h w h1 h2 h4
    · exact step_3 st ho ep si a h w h1 h2 h4
    · exact step_4 st ho ep si a h w h1 h2 h4
    · exact step_5 st ho ep si a h w h1 h2 h4
    · exact step_6 st ho ep si a h w h1 h2 h4
    · exact step_7 st ho ep si a h w h1 h2 h4
end Go.Proofs.Yteilkigdlkeiaaa.Lf

namespace Go.Proofs.Yteilkigdlkeiaaa.Lf
set_option linter.unusedVariables false
set_option linter.unusedSimpArgs false
open Go Go.RowKit

theorem bne_of {x y : Int} {b : Bool} (h : (x == y) = b) : (x != y) = !b := by rw [bne, h]

set_option maxHeartbeats 4000000 in
theorem possible_exact (l : Ln) (e : Ev) (w : World) (hv : validB l = true) (hf : formedB e = true) :
    Calls Try.prog 51 #[l.v, e.v] w fun e' w' => e' = .returned (.bool (mayB l e)) ∧ w' = (w.alloc (.cells #[.int .i64 l.st, .int .i64 l.ho, .int .i64 l.ep, .int .i64 l.si] 26)).alloc (.cells #[.int .i64 e.k, .int .i64 e.a, .int .i64 e.h] 54) := by
  obtain ⟨st, ho, ep, si⟩ := l
  obtain ⟨k, a, h⟩ := e
  have hs := valid_facts hv
  have hg := formed_facts hf
  have HS := Lib.hid (show mayB ⟨st, ho, ep, si⟩ ⟨k, a, h⟩ = mayB ⟨st, ho, ep, si⟩ ⟨k, a, h⟩ from rfl)
  clear hv hf
  show Calls _ _ #[.agg #[.int .i64 st, .int .i64 ho, .int .i64 ep, .int .i64 si], .agg #[.int .i64 k, .int .i64 a, .int .i64 h]] _ fun e' w' => e' = .returned (.bool (mayB ⟨st, ho, ep, si⟩ ⟨k, a, h⟩)) ∧ w' = (w.alloc (.cells #[.int .i64 st, .int .i64 ho, .int .i64 ep, .int .i64 si] 26)).alloc (.cells #[.int .i64 k, .int .i64 a, .int .i64 h] 54)
  generalize hr : mayB ⟨st, ho, ep, si⟩ ⟨k, a, h⟩ = r
  have HR := Lib.hid hr
  clear hr HS
  by_cases hle : a < si
  · obtain rfl : r = false := by rw [← HR.out, mayB, decide_eq_false (show ¬ si ≤ a by omega)]; rfl
    go_enter Try.func51, Try.ntmps51
    go_wp2
    go_ret
    exact ⟨rfl, rfl⟩
  have hle2 : si ≤ a := by omega
  rcases (show k = 1 ∨ k = 2 ∨ k = 3 ∨ k = 4 ∨ k = 5 ∨ k = 6 ∨ k = 7 by omega) with rfl | rfl | rfl | rfl | rfl | rfl | rfl
  all_goals (
    rcases hs.1 with rfl | rfl | rfl | rfl
    all_goals (
      rcases hb : (ho == h) with _ | _
      all_goals (
        have hb' := bne_of hb
        go_enter Try.func51, Try.ntmps51
        go_wp2
        go_ret
        exact ⟨ret_bool (by rw [← HR.out]; simp [mayB, hle2, hb', hb]), rfl⟩)))
end Go.Proofs.Yteilkigdlkeiaaa.Lf

namespace Go.Proofs.Yteilkigdlkeiaaa.Lf
set_option linter.unusedVariables false
set_option linter.unusedSimpArgs false
open Go Go.RowKit

theorem rformed_exact (e : Ev) (w : World) :
    Calls Try.prog 35 #[e.v] w fun e' w' => e' = .returned (.bool (formedB e)) ∧ w' = w.alloc (.cells #[.int .i64 e.k, .int .i64 e.a, .int .i64 e.h] 54) := by
  obtain ⟨k, a, h⟩ := e
  have C := Lib.hid in_any
  have CN := Lib.hid named_any
  have HV := Lib.hid (show formedB ⟨k, a, h⟩ = (inB k 1 7 && inB a 0 10000000 && (if namedB k then inB h 0 63 else h == -1)) from rfl)
  show Calls _ _ #[.agg #[.int .i64 k, .int .i64 a, .int .i64 h]] _ fun e' w' => e' = .returned (.bool (formedB ⟨k, a, h⟩)) ∧ w' = w.alloc (.cells #[.int .i64 k, .int .i64 a, .int .i64 h] 54)
  generalize formedB ⟨k, a, h⟩ = r at HV
  rcases h1 : inB k 1 7 with _ | _ <;> rcases h2 : inB a 0 10000000 with _ | _ <;> rcases h3 : namedB k with _ | _
  all_goals (
    rw [h1, h2, h3] at HV
    go_enter Try.func35, Try.ntmps35
    go_wp2_with (first | (go_at_call 48; refine (C.out _ _ _ _).mono ?_; rintro e w' ⟨rfl, rfl⟩) | (go_at_call 52; refine (CN.out _ _).mono ?_; rintro e w' ⟨rfl, rfl⟩))
    go_ret
    exact ⟨ret_bool (by rw [HV.out]; rfl), rfl⟩)

set_option maxHeartbeats 4000000 in
theorem rstep_any (l : Ln) (e : Ev) (w : World) :
    Calls Try.prog 33 #[l.v, e.v] w fun e' w' => e' = .returned (stepV (step l e)) ∧ Below w.heap.size w w' := by
  obtain ⟨st, ho, ep, si⟩ := l
  obtain ⟨k, a, h⟩ := e
  have C1 := Lib.hid (rvalid_exact ⟨st, ho, ep, si⟩)
  have C2 := Lib.hid (rformed_exact ⟨k, a, h⟩)
  show Calls _ _ #[.agg #[.int .i64 st, .int .i64 ho, .int .i64 ep, .int .i64 si], .agg #[.int .i64 k, .int .i64 a, .int .i64 h]] _ _
  rcases h1 : validB ⟨st, ho, ep, si⟩ with _ | _
  · rw [h1] at C1
    rw [show step ⟨st, ho, ep, si⟩ ⟨k, a, h⟩ = none by rw [step, h1]; rfl]
    go_enter Try.func33, Try.ntmps33
    go_wp2_with fail
    refine (C1.out _).mono ?_
    rintro e w1 ⟨rfl, rfl⟩
    go_wp2_with fail
    refine bodyPost_ret (v := stepV none) (by rw [results_cell_tmp rfl]; go_simp; rfl) rfl ⟨rfl, ?_⟩
    repeat (first | exact Below.refl _ _ | refine Below.drew ?_ | refine Below.setCell ?_ (by simp <;> omega) _ | refine Below.alloc ?_ (by simp <;> omega) _)
  rw [h1] at C1
  rcases h2 : formedB ⟨k, a, h⟩ with _ | _
  · rw [h2] at C2
    rw [show step ⟨st, ho, ep, si⟩ ⟨k, a, h⟩ = none by rw [step, h1, h2]; rfl]
    go_enter Try.func33, Try.ntmps33
    go_wp2_with fail
    refine (C1.out _).mono ?_
    rintro e w1 ⟨rfl, rfl⟩
    go_wp2_with fail
    refine (C2.out _).mono ?_
    rintro e w1 ⟨rfl, rfl⟩
    go_wp2_with fail
    refine bodyPost_ret (v := stepV none) (by rw [results_cell_tmp rfl]; go_simp; rfl) rfl ⟨rfl, ?_⟩
    repeat (first | exact Below.refl _ _ | refine Below.drew ?_ | refine Below.setCell ?_ (by simp <;> omega) _ | refine Below.alloc ?_ (by simp <;> omega) _)
  rw [h2] at C2
  have C3 := Lib.hid (fun w => possible_exact ⟨st, ho, ep, si⟩ ⟨k, a, h⟩ w h1 h2)
  have hs := valid_facts h1
  have hg := formed_facts h2
  have HS := Lib.hid (show step ⟨st, ho, ep, si⟩ ⟨k, a, h⟩ = if mayB ⟨st, ho, ep, si⟩ ⟨k, a, h⟩ then some (nextL ⟨st, ho, ep, si⟩ ⟨k, a, h⟩) else none by rw [step, h1, h2]; rfl)
  generalize step ⟨st, ho, ep, si⟩ ⟨k, a, h⟩ = r at HS
  rcases h3 : mayB ⟨st, ho, ep, si⟩ ⟨k, a, h⟩ with _ | _
  · rw [h3] at C3 HS
    obtain rfl : r = none := HS.out
    clear h1 h2 h3
    go_enter Try.func33, Try.ntmps33
    go_wp2_with fail
    refine (C1.out _).mono ?_
    rintro e w1 ⟨rfl, rfl⟩
    go_wp2_with fail
    refine (C2.out _).mono ?_
    rintro e w1 ⟨rfl, rfl⟩
    go_wp2_with fail
    refine (C3.out _).mono ?_
    rintro e w1 ⟨rfl, rfl⟩
    go_wp2_with fail
    refine bodyPost_ret (v := stepV none) (by rw [results_cell_tmp rfl]; go_simp; rfl) rfl ⟨rfl, ?_⟩
    repeat (first | exact Below.refl _ _ | refine Below.drew ?_ | refine Below.setCell ?_ (by simp <;> omega) _ | refine Below.alloc ?_ (by simp <;> omega) _)
  rw [h3] at C3 HS
  clear h1 h2 h3
  rcases (show k = 1 ∨ k = 2 ∨ k = 3 ∨ k = 4 ∨ k = 5 ∨ k = 6 ∨ k = 7 by omega) with rfl | rfl | rfl | rfl | rfl | rfl | rfl
  all_goals (
    obtain rfl := HS.out
    go_enter Try.func33, Try.ntmps33
    go_wp2_with fail
    refine (C1.out _).mono ?_
    rintro e w1 ⟨rfl, rfl⟩
    go_wp2_with fail
    refine (C2.out _).mono ?_
    rintro e w1 ⟨rfl, rfl⟩
    go_wp2_with fail
    refine (C3.out _).mono ?_
    rintro e w1 ⟨rfl, rfl⟩
    go_wp2_with fail
    refine bodyPost_ret (v := stepV (some (nextL _ _))) (by rw [results_cell_tmp rfl]; go_simp; rfl) rfl ⟨rfl, ?_⟩
    repeat (first | exact Below.refl _ _ | refine Below.drew ?_ | refine Below.setCell ?_ (by simp <;> omega) _ | refine Below.alloc ?_ (by simp <;> omega) _))
end Go.Proofs.Yteilkigdlkeiaaa.Lf
