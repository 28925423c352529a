/- life: Step, by its contract. -/
import Derived.Test.YteilkigdlkeiaaaLife3
import Derived.Deep.CutRange
namespace Go.Proofs.Yteilkigdlkeiaaa.Lf
set_option linter.unusedVariables false
set_option linter.unusedSimpArgs false
open Go Go.RowKit

def stepV (o : Option Ln) : Value := match o with
  | some l => .tuple #[l.v, .int .i64 0]
  | none => .tuple #[zeroL.v, .int .i64 140]

theorem valid_facts {st ho ep si : Int} (h : validB ⟨st, ho, ep, si⟩ = true) : (st = 0 ∨ st = 1 ∨ st = 2 ∨ st = 3) ∧ 0 ≤ ep ∧ ep ≤ 1000 ∧ 0 ≤ si ∧ si ≤ 10000000 ∧ -1 ≤ ho ∧ ho ≤ 63 ∧ (st = 0 → ho = -1) := by
  simp only [validB, inB, Bool.and_eq_true, decide_eq_true_eq] at h
  obtain ⟨⟨⟨h1, h2⟩, h3⟩, h4⟩ := h
  by_cases h0 : st = 0
  · rw [if_pos h0, beq_iff_eq] at h4
    omega
  · rw [if_neg h0] at h4
    simp only [Bool.and_eq_true, decide_eq_true_eq] at h4
    omega

theorem formed_facts {k a h : Int} (hf : formedB ⟨k, a, h⟩ = true) : 1 ≤ k ∧ k ≤ 7 ∧ 0 ≤ a ∧ a ≤ 10000000 ∧ -1 ≤ h ∧ h ≤ 63 ∧ (namedB k = true → 0 ≤ h) := by
  simp only [formedB, inB, Bool.and_eq_true, decide_eq_true_eq] at hf
  obtain ⟨⟨h1, h2⟩, h3⟩ := hf
  rcases hn : namedB k with _ | _
  · rw [hn, if_neg (by simp), beq_iff_eq] at h3
    refine ⟨h1.1, h1.2, h2.1, h2.2, by omega, by omega, fun hh => by cases hh⟩
  · rw [hn, if_pos rfl] at h3
    simp only [Bool.and_eq_true, decide_eq_true_eq] at h3
    refine ⟨h1.1, h1.2, h2.1, h2.2, by omega, by omega, fun _ => h3.1⟩

theorem below_3 (w : World) (o1 o2 o3 : Obj) : Below w.heap.size w (((w.alloc o1).alloc o2).alloc o3) := (((Below.refl _ _).alloc (Nat.le_refl _) o1).alloc (by simp) o2).alloc (by simp; omega) o3

/-- the early ways out -/
theorem step_early (l : Ln) (e : Ev) (w : World) (h : validB l = false ∨ (validB l = true ∧ formedB e = false) ∨ (validB l = true ∧ formedB e = true ∧ e.a < l.si)) :
    Calls Try.prog 32 #[l.v, e.v] w fun e' w' => e' = .returned (stepV none) ∧ Below w.heap.size w w' := by
  obtain ⟨st, ho, ep, si⟩ := l
  obtain ⟨k, a, h'⟩ := e
  have C1 := Lib.hid (valid_exact ⟨st, ho, ep, si⟩)
  have C2 := Lib.hid (formed_exact ⟨k, a, h'⟩)
  rcases h with h1 | ⟨h1, h2⟩ | ⟨h1, h2, h3⟩
  · rw [h1] at C1
    show Calls _ _ #[.agg #[.int .i64 st, .int .i64 ho, .int .i64 ep, .int .i64 si], .agg #[.int .i64 k, .int .i64 a, .int .i64 h']] _ _
    go_enter Try.func32, Try.ntmps32
    go_wp2_with fail
    refine (C1.out _).mono ?_
    rintro e w1 ⟨rfl, rfl⟩
    go_wp2_with fail
    refine bodyPost_ret (v := stepV none) (by rw [results_cell_tmp rfl]; go_simp; rfl) rfl ⟨rfl, ?_⟩
    repeat (first | exact Below.refl _ _ | refine Below.drew ?_ | refine Below.setCell ?_ (by simp <;> omega) _ | refine Below.alloc ?_ (by simp <;> omega) _)
  · rw [h1] at C1
    rw [h2] at C2
    show Calls _ _ #[.agg #[.int .i64 st, .int .i64 ho, .int .i64 ep, .int .i64 si], .agg #[.int .i64 k, .int .i64 a, .int .i64 h']] _ _
    go_enter Try.func32, Try.ntmps32
    go_wp2_with fail
    refine (C1.out _).mono ?_
    rintro e w1 ⟨rfl, rfl⟩
    go_wp2_with fail
    refine (C2.out _).mono ?_
    rintro e w1 ⟨rfl, ⟨-, rfl⟩ | rfl⟩
    all_goals (
      go_wp2_with fail
      refine bodyPost_ret (v := stepV none) (by rw [results_cell_tmp rfl]; go_simp; rfl) rfl ⟨rfl, ?_⟩
      repeat (first | exact Below.refl _ _ | refine Below.drew ?_ | refine Below.setCell ?_ (by simp <;> omega) _ | refine Below.alloc ?_ (by simp <;> omega) _))
  · rw [h1] at C1
    rw [h2] at C2
    have h3' : a < si := h3
    show Calls _ _ #[.agg #[.int .i64 st, .int .i64 ho, .int .i64 ep, .int .i64 si], .agg #[.int .i64 k, .int .i64 a, .int .i64 h']] _ _
    go_enter Try.func32, Try.ntmps32
    go_wp2_with fail
    refine (C1.out _).mono ?_
    rintro e w1 ⟨rfl, rfl⟩
    go_wp2_with fail
    refine (C2.out _).mono ?_
    rintro e w1 ⟨rfl, ⟨-, rfl⟩ | rfl⟩
    all_goals (
      go_wp2_with fail
      refine bodyPost_ret (v := stepV none) (by rw [results_cell_tmp rfl]; go_simp; rfl) rfl ⟨rfl, ?_⟩
      repeat (first | exact Below.refl _ _ | refine Below.drew ?_ | refine Below.setCell ?_ (by simp <;> omega) _ | refine Below.alloc ?_ (by simp <;> omega) _))

theorem formed_true (k a h : Int) (hf : formedB ⟨k, a, h⟩ = true) (w : World) :
    Calls Try.prog 34 #[.agg #[.int .i64 k, .int .i64 a, .int .i64 h]] w fun e' w' => e' = .returned (.bool true) ∧ w' = ((w.alloc (.cells #[.int .i64 k, .int .i64 a, .int .i64 h] 54)).alloc (.cells ruleCells 85)).drew :=
  (formed_exact ⟨k, a, h⟩ w).mono fun e' w' ⟨h1, h2⟩ => ⟨by rw [h1, hf], by
    rcases h2 with ⟨h3, _⟩ | h2
    · rw [hf] at h3; cases h3
    · exact h2⟩

theorem rules_any' (w : World) :
    Calls Try.prog 50 #[] w fun e w' => e = .returned (.slice (some ⟨w.heap.size, 0, none⟩) 8 8) ∧ w' = w.alloc (.cells ruleCells 85) := rules_any w

end Go.Proofs.Yteilkigdlkeiaaa.Lf
