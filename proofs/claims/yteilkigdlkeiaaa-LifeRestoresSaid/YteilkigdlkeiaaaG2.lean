/- life.Step at events of kind 1. life.Step at events of kind 2. life.Step at events of kind 3. life.Step at events of kind 4. -/
import Derived.Test.YteilkigdlkeiaaaG1
namespace Go.Proofs.Yteilkigdlkeiaaa.Lf
set_option linter.unusedVariables false
set_option linter.unusedSimpArgs false
open Go Go.RowKit

set_option maxHeartbeats 2000000 in
theorem step_1 (st ho ep si a h : Int) (w : World) (hv : validB ⟨st, ho, ep, si⟩ = true) (hf : formedB ⟨1, a, h⟩ = true) (hle : si ≤ a) :
    Calls Try.prog 32 #[.agg #[.int .i64 st, .int .i64 ho, .int .i64 ep, .int .i64 si], .agg #[.int .i64 1, .int .i64 a, .int .i64 h]] w fun e' w' => e' = .returned (stepV (step ⟨st, ho, ep, si⟩ ⟨1, a, h⟩)) ∧ Below w.heap.size w w' := by
  have C1 := Lib.hid (valid_exact ⟨st, ho, ep, si⟩)
  have C2 := Lib.hid (formed_true 1 a h hf)
  have hs := valid_facts hv
  have hg := formed_facts hf
  have hh := hg.2.2.2.2.2.2 rfl
  have HS := Lib.hid (show step ⟨st, ho, ep, si⟩ ⟨1, a, h⟩ = if mayB ⟨st, ho, ep, si⟩ ⟨1, a, h⟩ then some (nextL ⟨st, ho, ep, si⟩ ⟨1, a, h⟩) else none by rw [step, hv, hf]; rfl)
  rw [hv] at C1
  generalize step ⟨st, ho, ep, si⟩ ⟨1, a, h⟩ = r at HS
  have hnot : ¬ a < si := by omega
  clear hv hf
  go_enter Try.func32, Try.ntmps32
  go_wp2_with fail
  refine (C1.out _).mono ?_
  rintro e w1 ⟨rfl, rfl⟩
  go_wp2_with fail
  refine (C2.out _).mono ?_
  rintro e w1 ⟨rfl, rfl⟩
  go_upto_region 3 with fail
  generalize hW : (((((w.alloc (.cells #[.int .i64 st, .int .i64 ho, .int .i64 ep, .int .i64 si] 26)).alloc (.cells #[.int .i64 1, .int .i64 a, .int .i64 h] 54)).alloc (.cells #[.int .i64 0, .int .i64 0, .int .i64 0, .int .i64 0] 26)).alloc (.cells #[.int .i64 st, .int .i64 ho, .int .i64 ep, .int .i64 si] 26)).alloc (.cells #[.int .i64 1, .int .i64 a, .int .i64 h] 54)).alloc (.cells ruleCells 85) = W0
  have hk : W0.cell? ⟨w.heap.size + 1, 0, none⟩ = some (.int .i64 1) := by subst hW; go_simp
  have hlt : w.heap.size + 1 < W0.heap.size := by subst hW; simp
  have hk1 : ∀ o, (W0.alloc o).cell? ⟨w.heap.size + 1, 0, none⟩ = some (.int .i64 1) := fun o => by rw [← hk]; exact World.cell?_of_block (w := W0) (Below.heap_alloc W0 o _ hlt)
  have hk2 : ∀ o o2, ((W0.alloc o).alloc o2).cell? ⟨w.heap.size + 1, 0, none⟩ = some (.int .i64 1) := fun o o2 => by rw [← hk1 o]; exact World.cell?_of_block (w := W0.alloc o) (Below.heap_alloc (W0.alloc o) o2 _ (by simp; omega))
  have HW := Lib.hid hW
  clear hW
  go_cut [6] from 23 to 27 (fun s6 wx => (s6 = .pointer (some ⟨W0.heap.size + 1, 0, none⟩) ∧ wx = ((W0.alloc (.cells ruleCells 85)).alloc (.cells #[.int .i64 1, .int .i64 1, .bool true] 85)).drew.drew) ∨ (s6 = .pointer (some ⟨W0.heap.size, 0, none⟩) ∧ wx = ((W0.alloc (.cells #[.int .i64 1, .int .i64 1, .bool true] 85)).alloc (.cells ruleCells 85)).drew.drew))
  case first =>
    go_region_with (go_at_call 50; refine (rules_any _).mono ?_; rintro e w' ⟨rfl, rfl⟩)
    all_goals (go_wp2_with fail; go_meet; first | exact .inl ⟨rfl, rfl⟩ | exact .inr ⟨rfl, rfl⟩)
  case rest =>
  have hW := HW.out
  clear HW hk hk1 hk2 hlt C1 C2
  subst hW
  rcases hs.1 with rfl | rfl | rfl | rfl
  · by_cases hq : ep = 1000
    · have hb : (ep == 1000) = true := by rw [hq]; rfl
      obtain rfl : r = none := by rw [HS.out]; simp [mayB, hq]
      rcases hcut with ⟨rfl, rfl⟩ | ⟨rfl, rfl⟩
      all_goals (
        go_wp2_with fail
        refine bodyPost_ret (v := stepV none) (by rw [results_cell_tmp rfl]; go_simp; rfl) rfl ⟨rfl, ?_⟩
        repeat (first | exact Below.refl _ _ | refine Below.drew ?_ | refine Below.setCell ?_ (by simp <;> omega) _ | refine Below.alloc ?_ (by simp <;> omega) _))
    · have hb : (ep == 1000) = false := by rw [beq_eq_false_iff_ne]; exact hq
      have hq2 : ep < 1000 := by omega
      obtain rfl : ho = -1 := hs.2.2.2.2.2.2.2 rfl
      have hb2 : ((-1 : Int) == h) = false := by rw [beq_eq_false_iff_ne]; omega
      obtain rfl : r = some ⟨1, h, ep + 1, a⟩ := by rw [HS.out]; simp [mayB, nextL, namedB, hle, hq2]
      rcases hcut with ⟨rfl, rfl⟩ | ⟨rfl, rfl⟩
      all_goals (
        go_wp2_with fail
        go_region
        go_wp2_with fail
        refine bodyPost_ret (v := stepV (some ⟨1, h, ep + 1, a⟩)) (by rw [results_cell_tmp rfl]; go_simp; rfl) rfl ⟨rfl, ?_⟩
        repeat (first | exact Below.refl _ _ | refine Below.drew ?_ | refine Below.setCell ?_ (by simp <;> omega) _ | refine Below.alloc ?_ (by simp <;> omega) _))
  · obtain rfl : r = none := by rw [HS.out]; simp [mayB]
    rcases hcut with ⟨rfl, rfl⟩ | ⟨rfl, rfl⟩
    all_goals (
      go_wp2_with fail
      refine bodyPost_ret (v := stepV none) (by rw [results_cell_tmp rfl]; go_simp; rfl) rfl ⟨rfl, ?_⟩
      repeat (first | exact Below.refl _ _ | refine Below.drew ?_ | refine Below.setCell ?_ (by simp <;> omega) _ | refine Below.alloc ?_ (by simp <;> omega) _))
  · obtain rfl : r = none := by rw [HS.out]; simp [mayB]
    rcases hcut with ⟨rfl, rfl⟩ | ⟨rfl, rfl⟩
    all_goals (
      go_wp2_with fail
      refine bodyPost_ret (v := stepV none) (by rw [results_cell_tmp rfl]; go_simp; rfl) rfl ⟨rfl, ?_⟩
      repeat (first | exact Below.refl _ _ | refine Below.drew ?_ | refine Below.setCell ?_ (by simp <;> omega) _ | refine Below.alloc ?_ (by simp <;> omega) _))
  · obtain rfl : r = none := by rw [HS.out]; simp [mayB]
    rcases hcut with ⟨rfl, rfl⟩ | ⟨rfl, rfl⟩
    all_goals (
      go_wp2_with fail
      refine bodyPost_ret (v := stepV none) (by rw [results_cell_tmp rfl]; go_simp; rfl) rfl ⟨rfl, ?_⟩
      repeat (first | exact Below.refl _ _ | refine Below.drew ?_ | refine Below.setCell ?_ (by simp <;> omega) _ | refine Below.alloc ?_ (by simp <;> omega) _))
end Go.Proofs.Yteilkigdlkeiaaa.Lf

namespace Go.Proofs.Yteilkigdlkeiaaa.Lf
set_option linter.unusedVariables false
set_option linter.unusedSimpArgs false
open Go Go.RowKit

set_option maxHeartbeats 2000000 in
theorem step_2 (st ho ep si a h : Int) (w : World) (hv : validB ⟨st, ho, ep, si⟩ = true) (hf : formedB ⟨2, a, h⟩ = true) (hle : si ≤ a) :
    Calls Try.prog 32 #[.agg #[.int .i64 st, .int .i64 ho, .int .i64 ep, .int .i64 si], .agg #[.int .i64 2, .int .i64 a, .int .i64 h]] w fun e' w' => e' = .returned (stepV (step ⟨st, ho, ep, si⟩ ⟨2, a, h⟩)) ∧ Below w.heap.size w w' := by
  have C1 := Lib.hid (valid_exact ⟨st, ho, ep, si⟩)
  have C2 := Lib.hid (formed_true 2 a h hf)
  have hs := valid_facts hv
  have hg := formed_facts hf
  have hh := hg.2.2.2.2.2.2 rfl
  have HS := Lib.hid (show step ⟨st, ho, ep, si⟩ ⟨2, a, h⟩ = if mayB ⟨st, ho, ep, si⟩ ⟨2, a, h⟩ then some (nextL ⟨st, ho, ep, si⟩ ⟨2, a, h⟩) else none by rw [step, hv, hf]; rfl)
  rw [hv] at C1
  generalize step ⟨st, ho, ep, si⟩ ⟨2, a, h⟩ = r at HS
  have hnot : ¬ a < si := by omega
  clear hv hf
  go_enter Try.func32, Try.ntmps32
  go_wp2_with fail
  refine (C1.out _).mono ?_
  rintro e w1 ⟨rfl, rfl⟩
  go_wp2_with fail
  refine (C2.out _).mono ?_
  rintro e w1 ⟨rfl, rfl⟩
  go_upto_region 3 with fail
  generalize hW : (((((w.alloc (.cells #[.int .i64 st, .int .i64 ho, .int .i64 ep, .int .i64 si] 26)).alloc (.cells #[.int .i64 2, .int .i64 a, .int .i64 h] 54)).alloc (.cells #[.int .i64 0, .int .i64 0, .int .i64 0, .int .i64 0] 26)).alloc (.cells #[.int .i64 st, .int .i64 ho, .int .i64 ep, .int .i64 si] 26)).alloc (.cells #[.int .i64 2, .int .i64 a, .int .i64 h] 54)).alloc (.cells ruleCells 85) = W0
  have hk : W0.cell? ⟨w.heap.size + 1, 0, none⟩ = some (.int .i64 2) := by subst hW; go_simp
  have hlt : w.heap.size + 1 < W0.heap.size := by subst hW; simp
  have hk1 : ∀ o, (W0.alloc o).cell? ⟨w.heap.size + 1, 0, none⟩ = some (.int .i64 2) := fun o => by rw [← hk]; exact World.cell?_of_block (w := W0) (Below.heap_alloc W0 o _ hlt)
  have hk2 : ∀ o o2, ((W0.alloc o).alloc o2).cell? ⟨w.heap.size + 1, 0, none⟩ = some (.int .i64 2) := fun o o2 => by rw [← hk1 o]; exact World.cell?_of_block (w := W0.alloc o) (Below.heap_alloc (W0.alloc o) o2 _ (by simp; omega))
  have HW := Lib.hid hW
  clear hW
  go_cut [6] from 23 to 27 (fun s6 wx => (s6 = .pointer (some ⟨W0.heap.size + 1, 0, none⟩) ∧ wx = ((W0.alloc (.cells ruleCells 85)).alloc (.cells #[.int .i64 2, .int .i64 1, .bool true] 85)).drew.drew) ∨ (s6 = .pointer (some ⟨W0.heap.size, 0, none⟩) ∧ wx = ((W0.alloc (.cells #[.int .i64 2, .int .i64 1, .bool true] 85)).alloc (.cells ruleCells 85)).drew.drew))
  case first =>
    go_region_with (go_at_call 50; refine (rules_any _).mono ?_; rintro e w' ⟨rfl, rfl⟩)
    all_goals (go_wp2_with fail; go_meet; first | exact .inl ⟨rfl, rfl⟩ | exact .inr ⟨rfl, rfl⟩)
  case rest =>
  have hW := HW.out
  clear HW hk hk1 hk2 hlt C1 C2
  subst hW
  rcases hs.1 with rfl | rfl | rfl | rfl
  · obtain rfl : r = none := by rw [HS.out]; simp [mayB]
    rcases hcut with ⟨rfl, rfl⟩ | ⟨rfl, rfl⟩
    all_goals (
      go_wp2_with fail
      refine bodyPost_ret (v := stepV none) (by rw [results_cell_tmp rfl]; go_simp; rfl) rfl ⟨rfl, ?_⟩
      repeat (first | exact Below.refl _ _ | refine Below.drew ?_ | refine Below.setCell ?_ (by simp <;> omega) _ | refine Below.alloc ?_ (by simp <;> omega) _))
  · by_cases hq : ep = 1000
    · have hb : (ep == 1000) = true := by rw [hq]; rfl
      obtain rfl : r = none := by rw [HS.out]; simp [mayB, hq]
      rcases hcut with ⟨rfl, rfl⟩ | ⟨rfl, rfl⟩
      all_goals (
        go_wp2_with fail
        refine bodyPost_ret (v := stepV none) (by rw [results_cell_tmp rfl]; go_simp; rfl) rfl ⟨rfl, ?_⟩
        repeat (first | exact Below.refl _ _ | refine Below.drew ?_ | refine Below.setCell ?_ (by simp <;> omega) _ | refine Below.alloc ?_ (by simp <;> omega) _))
    · have hb : (ep == 1000) = false := by rw [beq_eq_false_iff_ne]; exact hq
      have hq2 : ep < 1000 := by omega
      by_cases hz : ho = h
      · have hb2 : (ho == h) = true := by rw [hz]; exact beq_self_eq_true h
        obtain rfl : r = none := by rw [HS.out]; simp [mayB, hz]
        rcases hcut with ⟨rfl, rfl⟩ | ⟨rfl, rfl⟩
        all_goals (
          go_wp2_with fail
          refine bodyPost_ret (v := stepV none) (by rw [results_cell_tmp rfl]; go_simp; rfl) rfl ⟨rfl, ?_⟩
          repeat (first | exact Below.refl _ _ | refine Below.drew ?_ | refine Below.setCell ?_ (by simp <;> omega) _ | refine Below.alloc ?_ (by simp <;> omega) _))
      · have hb2 : (ho == h) = false := by rw [beq_eq_false_iff_ne]; exact hz
        obtain rfl : r = some ⟨1, h, ep + 1, a⟩ := by rw [HS.out]; simp [mayB, nextL, namedB, hle, hq2, hz]
        rcases hcut with ⟨rfl, rfl⟩ | ⟨rfl, rfl⟩
        all_goals (
          go_wp2_with fail
          go_region
          go_wp2_with fail
          refine bodyPost_ret (v := stepV (some ⟨1, h, ep + 1, a⟩)) (by rw [results_cell_tmp rfl]; go_simp; rfl) rfl ⟨rfl, ?_⟩
          repeat (first | exact Below.refl _ _ | refine Below.drew ?_ | refine Below.setCell ?_ (by simp <;> omega) _ | refine Below.alloc ?_ (by simp <;> omega) _))
  · obtain rfl : r = none := by rw [HS.out]; simp [mayB]
    rcases hcut with ⟨rfl, rfl⟩ | ⟨rfl, rfl⟩
    all_goals (
      go_wp2_with fail
      refine bodyPost_ret (v := stepV none) (by rw [results_cell_tmp rfl]; go_simp; rfl) rfl ⟨rfl, ?_⟩
      repeat (first | exact Below.refl _ _ | refine Below.drew ?_ | refine Below.setCell ?_ (by simp <;> omega) _ | refine Below.alloc ?_ (by simp <;> omega) _))
  · obtain rfl : r = none := by rw [HS.out]; simp [mayB]
    rcases hcut with ⟨rfl, rfl⟩ | ⟨rfl, rfl⟩
    all_goals (
      go_wp2_with fail
      refine bodyPost_ret (v := stepV none) (by rw [results_cell_tmp rfl]; go_simp; rfl) rfl ⟨rfl, ?_⟩
      repeat (first | exact Below.refl _ _ | refine Below.drew ?_ | refine Below.setCell ?_ (by simp <;> omega) _ | refine Below.alloc ?_ (by simp <;> omega) _))
end Go.Proofs.Yteilkigdlkeiaaa.Lf

namespace Go.Proofs.Yteilkigdlkeiaaa.Lf
set_option linter.unusedVariables false
set_option linter.unusedSimpArgs false
open Go Go.RowKit

set_option maxHeartbeats 2000000 in
theorem step_3 (st ho ep si a h : Int) (w : World) (hv : validB ⟨st, ho, ep, si⟩ = true) (hf : formedB ⟨3, a, h⟩ = true) (hle : si ≤ a) :
    Calls Try.prog 32 #[.agg #[.int .i64 st, .int .i64 ho, .int .i64 ep, .int .i64 si], .agg #[.int .i64 3, .int .i64 a, .int .i64 h]] w fun e' w' => e' = .returned (stepV (step ⟨st, ho, ep, si⟩ ⟨3, a, h⟩)) ∧ Below w.heap.size w w' := by
  have C1 := Lib.hid (valid_exact ⟨st, ho, ep, si⟩)
  have C2 := Lib.hid (formed_true 3 a h hf)
  have hs := valid_facts hv
  have hg := formed_facts hf
  have HS := Lib.hid (show step ⟨st, ho, ep, si⟩ ⟨3, a, h⟩ = if mayB ⟨st, ho, ep, si⟩ ⟨3, a, h⟩ then some (nextL ⟨st, ho, ep, si⟩ ⟨3, a, h⟩) else none by rw [step, hv, hf]; rfl)
  rw [hv] at C1
  generalize step ⟨st, ho, ep, si⟩ ⟨3, a, h⟩ = r at HS
  have hnot : ¬ a < si := by omega
  clear hv hf
  go_enter Try.func32, Try.ntmps32
  go_wp2_with fail
  refine (C1.out _).mono ?_
  rintro e w1 ⟨rfl, rfl⟩
  go_wp2_with fail
  refine (C2.out _).mono ?_
  rintro e w1 ⟨rfl, rfl⟩
  go_upto_region 3 with fail
  generalize hW : (((((w.alloc (.cells #[.int .i64 st, .int .i64 ho, .int .i64 ep, .int .i64 si] 26)).alloc (.cells #[.int .i64 3, .int .i64 a, .int .i64 h] 54)).alloc (.cells #[.int .i64 0, .int .i64 0, .int .i64 0, .int .i64 0] 26)).alloc (.cells #[.int .i64 st, .int .i64 ho, .int .i64 ep, .int .i64 si] 26)).alloc (.cells #[.int .i64 3, .int .i64 a, .int .i64 h] 54)).alloc (.cells ruleCells 85) = W0
  have hk : W0.cell? ⟨w.heap.size + 1, 0, none⟩ = some (.int .i64 3) := by subst hW; go_simp
  have hlt : w.heap.size + 1 < W0.heap.size := by subst hW; simp
  have hk1 : ∀ o, (W0.alloc o).cell? ⟨w.heap.size + 1, 0, none⟩ = some (.int .i64 3) := fun o => by rw [← hk]; exact World.cell?_of_block (w := W0) (Below.heap_alloc W0 o _ hlt)
  have hk2 : ∀ o o2, ((W0.alloc o).alloc o2).cell? ⟨w.heap.size + 1, 0, none⟩ = some (.int .i64 3) := fun o o2 => by rw [← hk1 o]; exact World.cell?_of_block (w := W0.alloc o) (Below.heap_alloc (W0.alloc o) o2 _ (by simp; omega))
  have HW := Lib.hid hW
  clear hW
  go_cut [6] from 23 to 27 (fun s6 wx => (s6 = .pointer (some ⟨W0.heap.size + 1, 0, none⟩) ∧ wx = ((W0.alloc (.cells ruleCells 85)).alloc (.cells #[.int .i64 2, .int .i64 2, .bool false] 85)).drew.drew) ∨ (s6 = .pointer (some ⟨W0.heap.size, 0, none⟩) ∧ wx = ((W0.alloc (.cells #[.int .i64 2, .int .i64 2, .bool false] 85)).alloc (.cells ruleCells 85)).drew.drew))
  case first =>
    go_region_with (go_at_call 50; refine (rules_any _).mono ?_; rintro e w' ⟨rfl, rfl⟩)
    all_goals (go_wp2_with fail; go_meet; first | exact .inl ⟨rfl, rfl⟩ | exact .inr ⟨rfl, rfl⟩)
  case rest =>
  have hW := HW.out
  clear HW hk hk1 hk2 hlt C1 C2
  subst hW
  rcases hs.1 with rfl | rfl | rfl | rfl
  · obtain rfl : r = none := by rw [HS.out]; simp [mayB]
    rcases hcut with ⟨rfl, rfl⟩ | ⟨rfl, rfl⟩
    all_goals (
      go_wp2_with fail
      refine bodyPost_ret (v := stepV none) (by rw [results_cell_tmp rfl]; go_simp; rfl) rfl ⟨rfl, ?_⟩
      repeat (first | exact Below.refl _ _ | refine Below.drew ?_ | refine Below.setCell ?_ (by simp <;> omega) _ | refine Below.alloc ?_ (by simp <;> omega) _))
  · obtain rfl : r = some ⟨2, ho, ep, a⟩ := by rw [HS.out]; simp [mayB, nextL, namedB, hle]
    rcases hcut with ⟨rfl, rfl⟩ | ⟨rfl, rfl⟩
    all_goals (
      go_wp2_with fail
      go_region
      go_wp2_with fail
      refine bodyPost_ret (v := stepV (some ⟨2, ho, ep, a⟩)) (by rw [results_cell_tmp rfl]; go_simp; rfl) rfl ⟨rfl, ?_⟩
      repeat (first | exact Below.refl _ _ | refine Below.drew ?_ | refine Below.setCell ?_ (by simp <;> omega) _ | refine Below.alloc ?_ (by simp <;> omega) _))
  · obtain rfl : r = none := by rw [HS.out]; simp [mayB]
    rcases hcut with ⟨rfl, rfl⟩ | ⟨rfl, rfl⟩
    all_goals (
      go_wp2_with fail
      refine bodyPost_ret (v := stepV none) (by rw [results_cell_tmp rfl]; go_simp; rfl) rfl ⟨rfl, ?_⟩
      repeat (first | exact Below.refl _ _ | refine Below.drew ?_ | refine Below.setCell ?_ (by simp <;> omega) _ | refine Below.alloc ?_ (by simp <;> omega) _))
  · obtain rfl : r = none := by rw [HS.out]; simp [mayB]
    rcases hcut with ⟨rfl, rfl⟩ | ⟨rfl, rfl⟩
    all_goals (
      go_wp2_with fail
      refine bodyPost_ret (v := stepV none) (by rw [results_cell_tmp rfl]; go_simp; rfl) rfl ⟨rfl, ?_⟩
      repeat (first | exact Below.refl _ _ | refine Below.drew ?_ | refine Below.setCell ?_ (by simp <;> omega) _ | refine Below.alloc ?_ (by simp <;> omega) _))
end Go.Proofs.Yteilkigdlkeiaaa.Lf

namespace Go.Proofs.Yteilkigdlkeiaaa.Lf
set_option linter.unusedVariables false
set_option linter.unusedSimpArgs false
open Go Go.RowKit

set_option maxHeartbeats 2000000 in
theorem step_4 (st ho ep si a h : Int) (w : World) (hv : validB ⟨st, ho, ep, si⟩ = true) (hf : formedB ⟨4, a, h⟩ = true) (hle : si ≤ a) :
    Calls Try.prog 32 #[.agg #[.int .i64 st, .int .i64 ho, .int .i64 ep, .int .i64 si], .agg #[.int .i64 4, .int .i64 a, .int .i64 h]] w fun e' w' => e' = .returned (stepV (step ⟨st, ho, ep, si⟩ ⟨4, a, h⟩)) ∧ Below w.heap.size w w' := by
  have C1 := Lib.hid (valid_exact ⟨st, ho, ep, si⟩)
  have C2 := Lib.hid (formed_true 4 a h hf)
  have hs := valid_facts hv
  have hg := formed_facts hf
  have HS := Lib.hid (show step ⟨st, ho, ep, si⟩ ⟨4, a, h⟩ = if mayB ⟨st, ho, ep, si⟩ ⟨4, a, h⟩ then some (nextL ⟨st, ho, ep, si⟩ ⟨4, a, h⟩) else none by rw [step, hv, hf]; rfl)
  rw [hv] at C1
  generalize step ⟨st, ho, ep, si⟩ ⟨4, a, h⟩ = r at HS
  have hnot : ¬ a < si := by omega
  clear hv hf
  go_enter Try.func32, Try.ntmps32
  go_wp2_with fail
  refine (C1.out _).mono ?_
  rintro e w1 ⟨rfl, rfl⟩
  go_wp2_with fail
  refine (C2.out _).mono ?_
  rintro e w1 ⟨rfl, rfl⟩
  go_upto_region 3 with fail
  generalize hW : (((((w.alloc (.cells #[.int .i64 st, .int .i64 ho, .int .i64 ep, .int .i64 si] 26)).alloc (.cells #[.int .i64 4, .int .i64 a, .int .i64 h] 54)).alloc (.cells #[.int .i64 0, .int .i64 0, .int .i64 0, .int .i64 0] 26)).alloc (.cells #[.int .i64 st, .int .i64 ho, .int .i64 ep, .int .i64 si] 26)).alloc (.cells #[.int .i64 4, .int .i64 a, .int .i64 h] 54)).alloc (.cells ruleCells 85) = W0
  have hk : W0.cell? ⟨w.heap.size + 1, 0, none⟩ = some (.int .i64 4) := by subst hW; go_simp
  have hlt : w.heap.size + 1 < W0.heap.size := by subst hW; simp
  have hk1 : ∀ o, (W0.alloc o).cell? ⟨w.heap.size + 1, 0, none⟩ = some (.int .i64 4) := fun o => by rw [← hk]; exact World.cell?_of_block (w := W0) (Below.heap_alloc W0 o _ hlt)
  have hk2 : ∀ o o2, ((W0.alloc o).alloc o2).cell? ⟨w.heap.size + 1, 0, none⟩ = some (.int .i64 4) := fun o o2 => by rw [← hk1 o]; exact World.cell?_of_block (w := W0.alloc o) (Below.heap_alloc (W0.alloc o) o2 _ (by simp; omega))
  have HW := Lib.hid hW
  clear hW
  go_cut [6] from 23 to 27 (fun s6 wx => (s6 = .pointer (some ⟨W0.heap.size + 1, 0, none⟩) ∧ wx = ((W0.alloc (.cells ruleCells 85)).alloc (.cells #[.int .i64 4, .int .i64 1, .bool false] 85)).drew.drew) ∨ (s6 = .pointer (some ⟨W0.heap.size, 0, none⟩) ∧ wx = ((W0.alloc (.cells #[.int .i64 4, .int .i64 1, .bool false] 85)).alloc (.cells ruleCells 85)).drew.drew))
  case first =>
    go_region_with (go_at_call 50; refine (rules_any _).mono ?_; rintro e w' ⟨rfl, rfl⟩)
    all_goals (go_wp2_with fail; go_meet; first | exact .inl ⟨rfl, rfl⟩ | exact .inr ⟨rfl, rfl⟩)
  case rest =>
  have hW := HW.out
  clear HW hk hk1 hk2 hlt C1 C2
  subst hW
  rcases hs.1 with rfl | rfl | rfl | rfl
  · obtain rfl : r = none := by rw [HS.out]; simp [mayB]
    rcases hcut with ⟨rfl, rfl⟩ | ⟨rfl, rfl⟩
    all_goals (
      go_wp2_with fail
      refine bodyPost_ret (v := stepV none) (by rw [results_cell_tmp rfl]; go_simp; rfl) rfl ⟨rfl, ?_⟩
      repeat (first | exact Below.refl _ _ | refine Below.drew ?_ | refine Below.setCell ?_ (by simp <;> omega) _ | refine Below.alloc ?_ (by simp <;> omega) _))
  · obtain rfl : r = none := by rw [HS.out]; simp [mayB]
    rcases hcut with ⟨rfl, rfl⟩ | ⟨rfl, rfl⟩
    all_goals (
      go_wp2_with fail
      refine bodyPost_ret (v := stepV none) (by rw [results_cell_tmp rfl]; go_simp; rfl) rfl ⟨rfl, ?_⟩
      repeat (first | exact Below.refl _ _ | refine Below.drew ?_ | refine Below.setCell ?_ (by simp <;> omega) _ | refine Below.alloc ?_ (by simp <;> omega) _))
  · obtain rfl : r = some ⟨1, ho, ep, a⟩ := by rw [HS.out]; simp [mayB, nextL, namedB, hle]
    rcases hcut with ⟨rfl, rfl⟩ | ⟨rfl, rfl⟩
    all_goals (
      go_wp2_with fail
      go_region
      go_wp2_with fail
      refine bodyPost_ret (v := stepV (some ⟨1, ho, ep, a⟩)) (by rw [results_cell_tmp rfl]; go_simp; rfl) rfl ⟨rfl, ?_⟩
      repeat (first | exact Below.refl _ _ | refine Below.drew ?_ | refine Below.setCell ?_ (by simp <;> omega) _ | refine Below.alloc ?_ (by simp <;> omega) _))
  · obtain rfl : r = none := by rw [HS.out]; simp [mayB]
    rcases hcut with ⟨rfl, rfl⟩ | ⟨rfl, rfl⟩
    all_goals (
      go_wp2_with fail
      refine bodyPost_ret (v := stepV none) (by rw [results_cell_tmp rfl]; go_simp; rfl) rfl ⟨rfl, ?_⟩
      repeat (first | exact Below.refl _ _ | refine Below.drew ?_ | refine Below.setCell ?_ (by simp <;> omega) _ | refine Below.alloc ?_ (by simp <;> omega) _))
end Go.Proofs.Yteilkigdlkeiaaa.Lf
