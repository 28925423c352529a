/- Printed out of the translation by a program: functions and their contracts. -/
import Derived.Test.YteilkigdlkeiaaaQ0
import Derived.Test.YteilkigdlkeiaaaQ5
import Derived.Test.YteilkigdlkeiaaaEx
namespace Go.Proofs.Yteilkigdlkeiaaa.Q
attribute [local go_sem] Go.Proofs.Yteilkigdlkeiaaa.St.cell_map Option.map_some
open Go.RowKit Go.Proofs.YteilkigdlkeiaaaW.PrintWords Go.Proofs.YteilkigdlkeiaaaW.PrintLast Go.Proofs.YteilkigdlkeiaaaW.PrintMore
attribute [local go_sem] max2_int min2_int max_two min_two max_three min_three max_four min_four   -- for this text's walks alone
set_option linter.unusedVariables false
set_option linter.unusedSimpArgs false

/-! ### dialtonelaw14_LifeQuarantine: function 6 -/
mutual
def dialtonelaw14_LifeQuarantine.l0 : Nat → List (S54) → List (S62) → Int → Option (Bool)
  | 0, _, _, _ => none
  | k + 1, x3, x4, x6 => if x6 < (x4.length : Int) then (if 0 ≤ (wrap64 (x6 - 1)) then (if (wrap64 (x6 - 1)) < (x4.length : Int) then (if 0 ≤ x6 then (if ((rd_T62 x4 (wrap64 (x6 - 1))).f1) = ((rd_T62 x4 x6).f1) then (dialtonelaw14_LifeQuarantine.j1 k x3 x4 x6 true ((rd_T62 x4 (wrap64 (x6 - 1))).f0) ((rd_T62 x4 (wrap64 (x6 - 1))).f1) ((rd_T62 x4 (wrap64 (x6 - 1))).f2.f0) ((rd_T62 x4 (wrap64 (x6 - 1))).f2.f1) ((rd_T62 x4 x6).f0) ((rd_T62 x4 x6).f1) ((rd_T62 x4 x6).f2.f0) ((rd_T62 x4 x6).f2.f1)) else (dialtonelaw14_LifeQuarantine.j1 k x3 x4 x6 (decide ((wrap64 (((rd_T62 x4 x6).f2.f0) - ((rd_T62 x4 (wrap64 (x6 - 1))).f2.f1))) ≥ 2592000)) ((rd_T62 x4 (wrap64 (x6 - 1))).f0) ((rd_T62 x4 (wrap64 (x6 - 1))).f1) ((rd_T62 x4 (wrap64 (x6 - 1))).f2.f0) ((rd_T62 x4 (wrap64 (x6 - 1))).f2.f1) ((rd_T62 x4 x6).f0) ((rd_T62 x4 x6).f1) ((rd_T62 x4 x6).f2.f0) ((rd_T62 x4 x6).f2.f1))) else (none)) else (none)) else (none)) else (some true)
def dialtonelaw14_LifeQuarantine.j1 : Nat → List (S54) → List (S62) → Int → Bool → Int → Int → Int → Int → Int → Int → Int → Int → Option (Bool)
  | 0, _, _, _, _, _, _, _, _, _, _, _, _ => none
  | k + 1, x3, x4, x6, x51, x165000, x165001, x165002, x165003, x167000, x167001, x167002, x167003 => if x51 = true then (dialtonelaw14_LifeQuarantine.l0 k x3 x4 (wrap64 (x6 + 1))) else (dialtonelaw14_LifeQuarantine.l1 k x3 x4 x6 false 0 x165000 x165001 x165002 x165003 x167000 x167001 x167002 x167003)
def dialtonelaw14_LifeQuarantine.l1 : Nat → List (S54) → List (S62) → Int → Bool → Int → Int → Int → Int → Int → Int → Int → Int → Int → Option (Bool)
  | 0, _, _, _, _, _, _, _, _, _, _, _, _, _ => none
  | k + 1, x3, x4, x6, x9, x10, x165000, x165001, x165002, x165003, x167000, x167001, x167002, x167003 => if x10 < (x3.length : Int) then (if x9 = true then (dialtonelaw14_LifeQuarantine.l1 k x3 x4 x6 true (wrap64 (x10 + 1)) x165000 x165001 x165002 x165003 x167000 x167001 x167002 x167003) else (if 0 ≤ x10 then (if ((rd_T54 x3 x10).f0) = 2 then (if x165003 ≤ ((rd_T54 x3 x10).f1) then (dialtonelaw14_LifeQuarantine.l1 k x3 x4 x6 (decide (((rd_T54 x3 x10).f1) ≤ x167002)) (wrap64 (x10 + 1)) x165000 x165001 x165002 x165003 x167000 x167001 x167002 x167003) else (dialtonelaw14_LifeQuarantine.l1 k x3 x4 x6 false (wrap64 (x10 + 1)) x165000 x165001 x165002 x165003 x167000 x167001 x167002 x167003)) else (dialtonelaw14_LifeQuarantine.l1 k x3 x4 x6 false (wrap64 (x10 + 1)) x165000 x165001 x165002 x165003 x167000 x167001 x167002 x167003)) else (none))) else (if x9 = true then (dialtonelaw14_LifeQuarantine.l0 k x3 x4 (wrap64 (x6 + 1))) else (some false))
end
def dialtonelaw14_LifeQuarantine.f (k : Nat) (l0 : List (S23)) : Option (Bool) := (dialtonelaw14_sane.f).bind fun t155 => (if t155 = true then ((dialtoneref14_Made.f k l0).bind fun t156 => ((life_Stays.f t156).bind fun bt159 => (if bt159.2 = 0 then (dialtonelaw14_LifeQuarantine.l0 k t156 bt159.1 1) else (some false)))) else (some false))
theorem dialtonelaw14_LifeQuarantine.mono_l : ∀ k, (∀ y0 y1 y2, LeO (dialtonelaw14_LifeQuarantine.l0 k y0 y1 y2) (dialtonelaw14_LifeQuarantine.l0 (k + 1) y0 y1 y2)) ∧ (∀ y0 y1 y2 y3 y4 y5 y6 y7 y8 y9 y10 y11, LeO (dialtonelaw14_LifeQuarantine.j1 k y0 y1 y2 y3 y4 y5 y6 y7 y8 y9 y10 y11) (dialtonelaw14_LifeQuarantine.j1 (k + 1) y0 y1 y2 y3 y4 y5 y6 y7 y8 y9 y10 y11)) ∧ (∀ y0 y1 y2 y3 y4 y5 y6 y7 y8 y9 y10 y11 y12, LeO (dialtonelaw14_LifeQuarantine.l1 k y0 y1 y2 y3 y4 y5 y6 y7 y8 y9 y10 y11 y12) (dialtonelaw14_LifeQuarantine.l1 (k + 1) y0 y1 y2 y3 y4 y5 y6 y7 y8 y9 y10 y11 y12))
  | 0 => ⟨fun _ _ _ r h => by simp [dialtonelaw14_LifeQuarantine.l0] at h, fun _ _ _ _ _ _ _ _ _ _ _ _ r h => by simp [dialtonelaw14_LifeQuarantine.j1] at h, fun _ _ _ _ _ _ _ _ _ _ _ _ _ r h => by simp [dialtonelaw14_LifeQuarantine.l1] at h⟩
  | k + 1 => by
    obtain ⟨ih0, ih1, ih2⟩ := dialtonelaw14_LifeQuarantine.mono_l k
    refine ⟨?_, ?_, ?_⟩
    · intro y0 y1 y2
      unfold dialtonelaw14_LifeQuarantine.l0
      repeat' first
      | (with_reducible exact ih0 _ _ _)
      | (with_reducible exact ih1 _ _ _ _ _ _ _ _ _ _ _ _)
      | (with_reducible exact ih2 _ _ _ _ _ _ _ _ _ _ _ _ _)
      | (with_reducible exact dialtoneref14_Made.mono _ _)
      | (with_reducible exact LeO.refl _)
      | (with_reducible exact LeO.none _)
      | (with_reducible refine LeO.ite ?_ ?_)
      | (with_reducible refine LeO.bind ?_ (fun _ => ?_))
      | exact ih0 _ _ _
      | exact ih1 _ _ _ _ _ _ _ _ _ _ _ _
      | exact ih2 _ _ _ _ _ _ _ _ _ _ _ _ _
      | exact dialtoneref14_Made.mono _ _
      | exact LeO.none _
      | refine LeO.ite ?_ ?_
      | refine LeO.bind ?_ (fun _ => ?_)
    · intro y0 y1 y2 y3 y4 y5 y6 y7 y8 y9 y10 y11
      unfold dialtonelaw14_LifeQuarantine.j1
      repeat' first
      | (with_reducible exact ih0 _ _ _)
      | (with_reducible exact ih1 _ _ _ _ _ _ _ _ _ _ _ _)
      | (with_reducible exact ih2 _ _ _ _ _ _ _ _ _ _ _ _ _)
      | (with_reducible exact dialtoneref14_Made.mono _ _)
      | (with_reducible exact LeO.refl _)
      | (with_reducible exact LeO.none _)
      | (with_reducible refine LeO.ite ?_ ?_)
      | (with_reducible refine LeO.bind ?_ (fun _ => ?_))
      | exact ih0 _ _ _
      | exact ih1 _ _ _ _ _ _ _ _ _ _ _ _
      | exact ih2 _ _ _ _ _ _ _ _ _ _ _ _ _
      | exact dialtoneref14_Made.mono _ _
      | exact LeO.none _
      | refine LeO.ite ?_ ?_
      | refine LeO.bind ?_ (fun _ => ?_)
    · intro y0 y1 y2 y3 y4 y5 y6 y7 y8 y9 y10 y11 y12
      unfold dialtonelaw14_LifeQuarantine.l1
      repeat' first
      | (with_reducible exact ih0 _ _ _)
      | (with_reducible exact ih1 _ _ _ _ _ _ _ _ _ _ _ _)
      | (with_reducible exact ih2 _ _ _ _ _ _ _ _ _ _ _ _ _)
      | (with_reducible exact dialtoneref14_Made.mono _ _)
      | (with_reducible exact LeO.refl _)
      | (with_reducible exact LeO.none _)
      | (with_reducible refine LeO.ite ?_ ?_)
      | (with_reducible refine LeO.bind ?_ (fun _ => ?_))
      | exact ih0 _ _ _
      | exact ih1 _ _ _ _ _ _ _ _ _ _ _ _
      | exact ih2 _ _ _ _ _ _ _ _ _ _ _ _ _
      | exact dialtoneref14_Made.mono _ _
      | exact LeO.none _
      | refine LeO.ite ?_ ?_
      | refine LeO.bind ?_ (fun _ => ?_)
theorem dialtonelaw14_LifeQuarantine.mono : ∀ a0 k, LeO (dialtonelaw14_LifeQuarantine.f k a0) (dialtonelaw14_LifeQuarantine.f (k + 1) a0) := by
  intro a0 k
  obtain ⟨ih0, ih1, ih2⟩ := dialtonelaw14_LifeQuarantine.mono_l k
  unfold dialtonelaw14_LifeQuarantine.f
  repeat' first
      | (with_reducible exact ih0 _ _ _)
      | (with_reducible exact ih1 _ _ _ _ _ _ _ _ _ _ _ _)
      | (with_reducible exact ih2 _ _ _ _ _ _ _ _ _ _ _ _ _)
      | (with_reducible exact dialtoneref14_Made.mono _ _)
      | (with_reducible exact LeO.refl _)
      | (with_reducible exact LeO.none _)
      | (with_reducible refine LeO.ite ?_ ?_)
      | (with_reducible refine LeO.bind ?_ (fun _ => ?_))
      | exact ih0 _ _ _
      | exact ih1 _ _ _ _ _ _ _ _ _ _ _ _
      | exact ih2 _ _ _ _ _ _ _ _ _ _ _ _ _
      | exact dialtoneref14_Made.mono _ _
      | exact LeO.none _
      | refine LeO.ite ?_ ?_
      | refine LeO.bind ?_ (fun _ => ?_)
set_option maxHeartbeats 8000000 in
set_option maxRecDepth 100000 in
theorem dialtonelaw14_LifeQuarantine.calls (k : Nat) (A0 : Option Addr) (c0 : Nat) (l0 : List (S23)) (r : Bool) (w : World) (hr0 : Kd.C k23 w A0 l0.length l0) (hc0 : l0.length ≤ c0) (h : dialtonelaw14_LifeQuarantine.f k l0 = some r) :
    Calls Try.prog 6 #[.slice A0 l0.length c0] w fun e w' => e = .returned (.bool r) ∧ Below w.heap.size w w' := by
  have hu62 := Try.underlying62
  have HR0 := Aside0.mk hr0
  have HC0 := Aside0.mk hc0
  clear hr0 hc0
  have HB := Aside0.mk (Below.refl w.heap.size w)
  have H : ((dialtonelaw14_sane.f).bind fun t155 => (if t155 = true then ((dialtoneref14_Made.f k l0).bind fun t156 => ((life_Stays.f t156).bind fun bt159 => (if bt159.2 = 0 then (dialtonelaw14_LifeQuarantine.l0 k t156 bt159.1 1) else (some false)))) else (some false))) = some r := h
  clear h
  replace H := Option.bind_eq_some_iff.mp H
  obtain ⟨t155, A20, H⟩ := H
  replace H : (if t155 = true then ((dialtoneref14_Made.f k l0).bind fun t156 => ((life_Stays.f t156).bind fun bt159 => (if bt159.2 = 0 then (dialtonelaw14_LifeQuarantine.l0 k t156 bt159.1 1) else (some false)))) else (some false)) = some r := H
  have A2 := Aside0.mk A20
  clear A20
  by_cases c3 : t155 = true
  · subst c3
    have H1 : ((dialtoneref14_Made.f k l0).bind fun t156 => ((life_Stays.f t156).bind fun bt159 => (if bt159.2 = 0 then (dialtonelaw14_LifeQuarantine.l0 k t156 bt159.1 1) else (some false)))) = some r := by rw [if_pos rfl] at H; exact H
    clear H
    have H := H1
    clear H1
    replace H := Option.bind_eq_some_iff.mp H
    obtain ⟨t156, A40, H⟩ := H
    replace H : ((life_Stays.f t156).bind fun bt159 => (if bt159.2 = 0 then (dialtonelaw14_LifeQuarantine.l0 k t156 bt159.1 1) else (some false))) = some r := H
    have A4 := Aside0.mk A40
    clear A40
    replace H := Option.bind_eq_some_iff.mp H
    obtain ⟨⟨t159, t160⟩, A50, H⟩ := H
    replace H : (if t160 = 0 then (dialtonelaw14_LifeQuarantine.l0 k t156 t159 1) else (some false)) = some r := H
    have A5 := Aside0.mk A50
    clear A50
    by_cases c6 : t160 = 0
    · rw [if_pos c6] at H
      have c6b0 : (t160 == 0) = true := beq_iff_eq.mpr c6
      have c6b1 : (t160 != 0) = false := bne_eq_false_iff_eq.mpr c6
      clear c6
      have H' := Aside0.mk H
      clear H
      go_enter Try.func6, Try.ntmps6
      go_wp2_with (first | (go_at_call 13; (with_reducible refine (dialtonelaw14_sane.calls  true _ A2.out).mono ?_); rintro e w7 ⟨rfl, hb⟩; have n0_ := Aside0.mk (below_step (by repeat (first | (with_reducible first | exact HB.out | apply below_alloc | apply pw_below_drewN | apply below_drew1) | exact HB.out)) hb); clear HB; have HB := n0_; clear n0_; (try clear hb); (try clear hb2); (try clear hk); (try clear hi)) | (go_at_call 14; (with_reducible refine (dialtoneref14_Made.calls k _ _ l0 t156 _ ?side1 ?side2 A4.out).mono ?_); (case side1 => repeat (first | exact (Kd.C_below HR0.out HB.out) | (with_reducible refine Kd.C_alloc ?_ _) | (with_reducible refine Kd.C_drewN ?_ _) | (with_reducible refine Kd.C_drew ?_))); (case side2 => exact HC0.out); rintro e w8 ⟨v157, rfl, ho0, hb⟩; have n0_ := Aside0.mk (Kd.R_lower ho0 (below_size (by repeat (first | (with_reducible first | exact HB.out | apply below_alloc | apply pw_below_drewN | apply below_drew1) | exact HB.out)))); have n1_ := Aside0.mk (below_step (by repeat (first | (with_reducible first | exact HB.out | apply below_alloc | apply pw_below_drewN | apply below_drew1) | exact HB.out)) hb); clear HB; have HO158 := n0_; have HB := n1_; clear n0_ n1_; (try clear hb); (try clear hb2); (try clear hk); (try clear hi); (try clear ho0); obtain ⟨Ao9, co9, eo9⟩ := Kd.R_slice HO158.out; subst eo9) | (go_at_call 19; (with_reducible refine (life_Stays.calls _ _ t156 t159 t160 _ ?side1 ?side2 A5.out).mono ?_); (case side1 => repeat (first | exact (Kd.R_reads' HO158.out).2.2 | (with_reducible refine Kd.C_alloc ?_ _) | (with_reducible refine Kd.C_drewN ?_ _) | (with_reducible refine Kd.C_drew ?_))); (case side2 => exact (Kd.R_reads' HO158.out).2.1); rintro e w10 ⟨v161, rfl, ho0, hb⟩; have n0_ := Aside0.mk (Kd.R_below (by (with_reducible repeat (first | apply Kd.R_alloc | apply Kd.R_drewN | apply Kd.R_drew)); exact HO158.out) hb); have n1_ := Aside0.mk (Kd.R_lower ho0 (below_size (by repeat (first | (with_reducible first | exact HB.out | apply below_alloc | apply pw_below_drewN | apply below_drew1) | exact HB.out)))); have n2_ := Aside0.mk (below_step (by repeat (first | (with_reducible first | exact HB.out | apply below_alloc | apply pw_below_drewN | apply below_drew1) | exact HB.out)) hb); clear HO158; clear HB; have HO158 := n0_; have HO162 := n1_; have HB := n2_; clear n0_ n1_ n2_; (try clear hb); (try clear hb2); (try clear hk); (try clear hi); (try clear ho0)))
      repeat (go_quiet (first | (go_at_call 13; (with_reducible refine (dialtonelaw14_sane.calls  true _ A2.out).mono ?_); rintro e w7 ⟨rfl, hb⟩; have n0_ := Aside0.mk (below_step (by repeat (first | (with_reducible first | exact HB.out | apply below_alloc | apply pw_below_drewN | apply below_drew1) | exact HB.out)) hb); clear HB; have HB := n0_; clear n0_; (try clear hb); (try clear hb2); (try clear hk); (try clear hi)) | (go_at_call 14; (with_reducible refine (dialtoneref14_Made.calls k _ _ l0 t156 _ ?side1 ?side2 A4.out).mono ?_); (case side1 => repeat (first | exact (Kd.C_below HR0.out HB.out) | (with_reducible refine Kd.C_alloc ?_ _) | (with_reducible refine Kd.C_drewN ?_ _) | (with_reducible refine Kd.C_drew ?_))); (case side2 => exact HC0.out); rintro e w8 ⟨v157, rfl, ho0, hb⟩; have n0_ := Aside0.mk (Kd.R_lower ho0 (below_size (by repeat (first | (with_reducible first | exact HB.out | apply below_alloc | apply pw_below_drewN | apply below_drew1) | exact HB.out)))); have n1_ := Aside0.mk (below_step (by repeat (first | (with_reducible first | exact HB.out | apply below_alloc | apply pw_below_drewN | apply below_drew1) | exact HB.out)) hb); clear HB; have HO158 := n0_; have HB := n1_; clear n0_ n1_; (try clear hb); (try clear hb2); (try clear hk); (try clear hi); (try clear ho0); obtain ⟨Ao9, co9, eo9⟩ := Kd.R_slice HO158.out; subst eo9) | (go_at_call 19; (with_reducible refine (life_Stays.calls _ _ t156 t159 t160 _ ?side1 ?side2 A5.out).mono ?_); (case side1 => repeat (first | exact (Kd.R_reads' HO158.out).2.2 | (with_reducible refine Kd.C_alloc ?_ _) | (with_reducible refine Kd.C_drewN ?_ _) | (with_reducible refine Kd.C_drew ?_))); (case side2 => exact (Kd.R_reads' HO158.out).2.1); rintro e w10 ⟨v161, rfl, ho0, hb⟩; have n0_ := Aside0.mk (Kd.R_below (by (with_reducible repeat (first | apply Kd.R_alloc | apply Kd.R_drewN | apply Kd.R_drew)); exact HO158.out) hb); have n1_ := Aside0.mk (Kd.R_lower ho0 (below_size (by repeat (first | (with_reducible first | exact HB.out | apply below_alloc | apply pw_below_drewN | apply below_drew1) | exact HB.out)))); have n2_ := Aside0.mk (below_step (by repeat (first | (with_reducible first | exact HB.out | apply below_alloc | apply pw_below_drewN | apply below_drew1) | exact HB.out)) hb); clear HO158; clear HB; have HO158 := n0_; have HO162 := n1_; have HB := n2_; clear n0_ n1_ n2_; (try clear hb); (try clear hb2); (try clear hk); (try clear hi); (try clear ho0))); try go_wp2_with (first | (go_at_call 13; (with_reducible refine (dialtonelaw14_sane.calls  true _ A2.out).mono ?_); rintro e w7 ⟨rfl, hb⟩; have n0_ := Aside0.mk (below_step (by repeat (first | (with_reducible first | exact HB.out | apply below_alloc | apply pw_below_drewN | apply below_drew1) | exact HB.out)) hb); clear HB; have HB := n0_; clear n0_; (try clear hb); (try clear hb2); (try clear hk); (try clear hi)) | (go_at_call 14; (with_reducible refine (dialtoneref14_Made.calls k _ _ l0 t156 _ ?side1 ?side2 A4.out).mono ?_); (case side1 => repeat (first | exact (Kd.C_below HR0.out HB.out) | (with_reducible refine Kd.C_alloc ?_ _) | (with_reducible refine Kd.C_drewN ?_ _) | (with_reducible refine Kd.C_drew ?_))); (case side2 => exact HC0.out); rintro e w8 ⟨v157, rfl, ho0, hb⟩; have n0_ := Aside0.mk (Kd.R_lower ho0 (below_size (by repeat (first | (with_reducible first | exact HB.out | apply below_alloc | apply pw_below_drewN | apply below_drew1) | exact HB.out)))); have n1_ := Aside0.mk (below_step (by repeat (first | (with_reducible first | exact HB.out | apply below_alloc | apply pw_below_drewN | apply below_drew1) | exact HB.out)) hb); clear HB; have HO158 := n0_; have HB := n1_; clear n0_ n1_; (try clear hb); (try clear hb2); (try clear hk); (try clear hi); (try clear ho0); obtain ⟨Ao9, co9, eo9⟩ := Kd.R_slice HO158.out; subst eo9) | (go_at_call 19; (with_reducible refine (life_Stays.calls _ _ t156 t159 t160 _ ?side1 ?side2 A5.out).mono ?_); (case side1 => repeat (first | exact (Kd.R_reads' HO158.out).2.2 | (with_reducible refine Kd.C_alloc ?_ _) | (with_reducible refine Kd.C_drewN ?_ _) | (with_reducible refine Kd.C_drew ?_))); (case side2 => exact (Kd.R_reads' HO158.out).2.1); rintro e w10 ⟨v161, rfl, ho0, hb⟩; have n0_ := Aside0.mk (Kd.R_below (by (with_reducible repeat (first | apply Kd.R_alloc | apply Kd.R_drewN | apply Kd.R_drew)); exact HO158.out) hb); have n1_ := Aside0.mk (Kd.R_lower ho0 (below_size (by repeat (first | (with_reducible first | exact HB.out | apply below_alloc | apply pw_below_drewN | apply below_drew1) | exact HB.out)))); have n2_ := Aside0.mk (below_step (by repeat (first | (with_reducible first | exact HB.out | apply below_alloc | apply pw_below_drewN | apply below_drew1) | exact HB.out)) hb); clear HO158; clear HB; have HO158 := n0_; have HO162 := n1_; have HB := n2_; clear n0_ n1_ n2_; (try clear hb); (try clear hb2); (try clear hk); (try clear hi); (try clear ho0))))
      go_loopg [6] k (fun kq v6 w' => ∃ (x6_1 : Int), v6 = .int .i64 x6_1 ∧ Aside0 (dialtonelaw14_LifeQuarantine.l0 kq t156 t159 x6_1 = some r) ∧ Aside0 (kq ≤ k) ∧ Aside0 (Kd.R k54 54 w' w.heap.size (fun _ => True) (.slice Ao9 t156.length co9) t156) ∧ Aside0 (Kd.R k62 62 w' w.heap.size (fun _ => True) v161 t159) ∧ Aside0 (Below w.heap.size w w'))
      case atStart => exact ⟨(1), (by first | rfl | (simp; done) | (simp [*]; done)), H', ⟨Nat.le_refl _⟩, ⟨by (with_reducible repeat (first | apply Kd.R_alloc | apply Kd.R_drewN | apply Kd.R_drew)); exact HO158.out⟩, ⟨by (with_reducible repeat (first | apply Kd.R_alloc | apply Kd.R_drewN | apply Kd.R_drew)); exact HO162.out⟩, ⟨by repeat (first | (with_reducible first | exact HB.out | apply below_alloc | apply pw_below_drewN | apply below_drew1) | exact HB.out)⟩⟩
      case round =>
        clear H'
        try clear p2
        try clear c3
        try clear c6
        try clear c6b0
        try clear c6b1
        obtain ⟨x6_1, rfl, HA, HK1, HO_3, HO_4, HB⟩ := hrel
        cases gk with
        | zero => exact absurd HA.out (by simp [dialtonelaw14_LifeQuarantine.l0])
        | succ k1 =>
          have H := HA.out
          clear HA
          simp only [dialtonelaw14_LifeQuarantine.l0] at H
          by_cases c11 : x6_1 < (t159.length : Int)
          · rw [if_pos c11] at H
            have c11b0 : decide (x6_1 < (t159.length : Int)) = true := decide_eq_true c11
            clear c11
            obtain ⟨ji12, hji12⟩ : ∃ j_ : Int, (wrap64 (x6_1 - 1)) = j_ := ⟨_, rfl⟩
            replace H : (if 0 ≤ (ji12) then (if (ji12) < (t159.length : Int) then (if 0 ≤ x6_1 then (if ((rd_T62 t159 (ji12)).f1) = ((rd_T62 t159 x6_1).f1) then (dialtonelaw14_LifeQuarantine.j1 k1 t156 t159 x6_1 true ((rd_T62 t159 (ji12)).f0) ((rd_T62 t159 (ji12)).f1) ((rd_T62 t159 (ji12)).f2.f0) ((rd_T62 t159 (ji12)).f2.f1) ((rd_T62 t159 x6_1).f0) ((rd_T62 t159 x6_1).f1) ((rd_T62 t159 x6_1).f2.f0) ((rd_T62 t159 x6_1).f2.f1)) else (dialtonelaw14_LifeQuarantine.j1 k1 t156 t159 x6_1 (decide ((wrap64 (((rd_T62 t159 x6_1).f2.f0) - ((rd_T62 t159 (ji12)).f2.f1))) ≥ 2592000)) ((rd_T62 t159 (ji12)).f0) ((rd_T62 t159 (ji12)).f1) ((rd_T62 t159 (ji12)).f2.f0) ((rd_T62 t159 (ji12)).f2.f1) ((rd_T62 t159 x6_1).f0) ((rd_T62 t159 x6_1).f1) ((rd_T62 t159 x6_1).f2.f0) ((rd_T62 t159 x6_1).f2.f1))) else (none)) else (none)) else (none)) = some r := by first | (rw [hji12] at H; exact H) | (simp only [hji12] at H ⊢; exact H)
            have hji12w : (IntKind.i64.wrap (x6_1 - 1)) = ji12 := (i64_w _).trans hji12
            by_cases c13 : 0 ≤ (ji12)
            · rw [if_pos c13] at H
              have c13b0 : decide (0 ≤ (ji12)) = true := decide_eq_true c13
              clear c13
              by_cases c14 : (ji12) < (t159.length : Int)
              · rw [if_pos c14] at H
                have c14b0 : decide ((ji12) < (t159.length : Int)) = true := decide_eq_true c14
                clear c14
                by_cases c15 : 0 ≤ x6_1
                · rw [if_pos c15] at H
                  have c15b0 : decide (0 ≤ x6_1) = true := decide_eq_true c15
                  clear c15
                  have HC16 := Aside0.mk H
                  clear H
                  obtain ⟨Ao17, co17, eo17⟩ := Kd.R_slice HO_4.out
                  subst eo17
                  have p163 : 0 ≤ ((ji12) : Int) := of_decide_eq_true (by first | (with_reducible assumption) | assumption)
                  have q163 : (ji12) < (t159.length : Int) := of_decide_eq_true (by first | (with_reducible assumption) | assumption)
                  obtain ⟨ad163, e163, hx163_0, hx163_1, hx163_2, hx163_3⟩ := at_T62 (Kd.R_reads' HO_4.out).2.2 (ji12) p163 q163
                  cases e163
                  replace p163 := eq_true p163
                  replace q163 := eq_true q163
                  go_upto_region 12 with (first | ((with_reducible refine gate_dst (N := 7) rfl ?_); refine box_event ?hg (N := 7) ?hd (cs := #[.int .i64 0, .int .i64 0, .int .i64 0, .int .i64 0]) (t := 62) ?hr ?_; (case hd => rfl); (case hg => rfl); (case hr => first | (go_simp; done) | (go_simp; rfl)); intro gb164 hg w18 hbox hb; have n0_ := Aside0.mk (Kd.R_below (by (with_reducible repeat (first | apply Kd.R_alloc | apply Kd.R_drewN | apply Kd.R_drew)); exact HO_3.out) hb); have n1_ := Aside0.mk (Kd.R_below (Kd.R_elderB (by (with_reducible repeat (first | apply Kd.R_alloc | apply Kd.R_drewN | apply Kd.R_drew)); exact HO_4.out) gb164 (Nat.le_of_eq hg.symm)) hb); have n2_ := Aside0.mk (below_step (by repeat (first | (with_reducible first | exact HB.out | apply below_alloc | apply pw_below_drewN | apply below_drew1) | exact HB.out)) hb); have n3_ := Aside0.mk (hbox); have n4_ := Aside0.mk ((by rw [hg]; exact (below_size (by repeat (first | (with_reducible first | exact HB.out | apply below_alloc | apply pw_below_drewN | apply below_drew1) | exact HB.out))) : w.heap.size ≤ gb164)); have n5_ := Aside0.mk ((by rw [hg]; exact (below_size (by repeat (first | (with_reducible first | exact HB.out | apply below_alloc | apply pw_below_drewN | apply below_drew1) | exact HB.out))) : w.heap.size ≤ gb164)); clear HO_3; clear HO_4; clear HB; have HO_3 := n0_; have HO_4 := n1_; have HB := n2_; have BK164 := n3_; have GW164 := n4_; have GE164 := n5_; clear n0_ n1_ n2_ n3_ n4_ n5_; clear hb hbox hg; have hcz19_0 : w18.cell? ⟨gb164, 0, none⟩ = some (.int .i64 0) := (blk_cell BK164.out 0).trans rfl; have hcz19_1 : w18.cell? ⟨gb164, 1, none⟩ = some (.int .i64 0) := (blk_cell BK164.out 1).trans rfl; have hcz19_2 : w18.cell? ⟨gb164, 2, none⟩ = some (.int .i64 0) := (blk_cell BK164.out 2).trans rfl; have hcz19_3 : w18.cell? ⟨gb164, 3, none⟩ = some (.int .i64 0) := (blk_cell BK164.out 3).trans rfl; have hfz19_0 := blk_frozen BK164.out 0; have hfz19_1 := blk_frozen BK164.out 1; have hfz19_2 := blk_frozen BK164.out 2; have hfz19_3 := blk_frozen BK164.out 3; have p165 : 0 ≤ (x6_1 : Int) := of_decide_eq_true (by first | (with_reducible assumption) | assumption); have q165 : x6_1 < (t159.length : Int) := of_decide_eq_true (by first | (with_reducible assumption) | assumption); obtain ⟨ad165, e165, hx165_0, hx165_1, hx165_2, hx165_3⟩ := at_T62 (Kd.R_reads' HO_4.out).2.2 x6_1 p165 q165; obtain rfl : ad163 = ad165 := (by injection e165); have hn165_0 : ad163.block ≠ gb164 := Kd.own_blk (Kd.R_away HO_4.out (fun _ hk => hk.2)); have hn165_1 : ad163.block ≠ gb164 := Kd.own_blk (Kd.R_away HO_4.out (fun _ hk => hk.2)); have hn165_2 : ad163.block ≠ gb164 := Kd.own_blk (Kd.R_away HO_4.out (fun _ hk => hk.2)); have hn165_3 : ad163.block ≠ gb164 := Kd.own_blk (Kd.R_away HO_4.out (fun _ hk => hk.2)); replace hx165_0 := (cell_far (p := ⟨gb164, 0, none⟩) (by first | (rw [add_block]; exact hn165_0) | (show (Addr.add _ _).block ≠ _; rw [add_block]; exact hn165_0) | exact hn165_0) (.int .i64 ((rd_T62 t159 (ji12)).f0))).trans hx165_0; replace hx165_1 := (cell_far (p := ⟨gb164, 0, none⟩) (by first | (rw [add_block]; exact hn165_0) | (show (Addr.add _ _).block ≠ _; rw [add_block]; exact hn165_0) | exact hn165_0) (.int .i64 ((rd_T62 t159 (ji12)).f0))).trans hx165_1; replace hx165_2 := (cell_far (p := ⟨gb164, 0, none⟩) (by first | (rw [add_block]; exact hn165_0) | (show (Addr.add _ _).block ≠ _; rw [add_block]; exact hn165_0) | exact hn165_0) (.int .i64 ((rd_T62 t159 (ji12)).f0))).trans hx165_2; replace hx165_3 := (cell_far (p := ⟨gb164, 0, none⟩) (by first | (rw [add_block]; exact hn165_0) | (show (Addr.add _ _).block ≠ _; rw [add_block]; exact hn165_0) | exact hn165_0) (.int .i64 ((rd_T62 t159 (ji12)).f0))).trans hx165_3; replace hx165_0 := (cell_far (p := ⟨gb164, 1, none⟩) (by first | (rw [add_block]; exact hn165_1) | (show (Addr.add _ _).block ≠ _; rw [add_block]; exact hn165_1) | exact hn165_1) (.int .i64 ((rd_T62 t159 (ji12)).f1))).trans hx165_0; replace hx165_1 := (cell_far (p := ⟨gb164, 1, none⟩) (by first | (rw [add_block]; exact hn165_1) | (show (Addr.add _ _).block ≠ _; rw [add_block]; exact hn165_1) | exact hn165_1) (.int .i64 ((rd_T62 t159 (ji12)).f1))).trans hx165_1; replace hx165_2 := (cell_far (p := ⟨gb164, 1, none⟩) (by first | (rw [add_block]; exact hn165_1) | (show (Addr.add _ _).block ≠ _; rw [add_block]; exact hn165_1) | exact hn165_1) (.int .i64 ((rd_T62 t159 (ji12)).f1))).trans hx165_2; replace hx165_3 := (cell_far (p := ⟨gb164, 1, none⟩) (by first | (rw [add_block]; exact hn165_1) | (show (Addr.add _ _).block ≠ _; rw [add_block]; exact hn165_1) | exact hn165_1) (.int .i64 ((rd_T62 t159 (ji12)).f1))).trans hx165_3; replace hx165_0 := (cell_far (p := ⟨gb164, 2, none⟩) (by first | (rw [add_block]; exact hn165_2) | (show (Addr.add _ _).block ≠ _; rw [add_block]; exact hn165_2) | exact hn165_2) (.int .i64 ((rd_T62 t159 (ji12)).f2.f0))).trans hx165_0; replace hx165_1 := (cell_far (p := ⟨gb164, 2, none⟩) (by first | (rw [add_block]; exact hn165_2) | (show (Addr.add _ _).block ≠ _; rw [add_block]; exact hn165_2) | exact hn165_2) (.int .i64 ((rd_T62 t159 (ji12)).f2.f0))).trans hx165_1; replace hx165_2 := (cell_far (p := ⟨gb164, 2, none⟩) (by first | (rw [add_block]; exact hn165_2) | (show (Addr.add _ _).block ≠ _; rw [add_block]; exact hn165_2) | exact hn165_2) (.int .i64 ((rd_T62 t159 (ji12)).f2.f0))).trans hx165_2; replace hx165_3 := (cell_far (p := ⟨gb164, 2, none⟩) (by first | (rw [add_block]; exact hn165_2) | (show (Addr.add _ _).block ≠ _; rw [add_block]; exact hn165_2) | exact hn165_2) (.int .i64 ((rd_T62 t159 (ji12)).f2.f0))).trans hx165_3; replace hx165_0 := (cell_far (p := ⟨gb164, 3, none⟩) (by first | (rw [add_block]; exact hn165_3) | (show (Addr.add _ _).block ≠ _; rw [add_block]; exact hn165_3) | exact hn165_3) (.int .i64 ((rd_T62 t159 (ji12)).f2.f1))).trans hx165_0; replace hx165_1 := (cell_far (p := ⟨gb164, 3, none⟩) (by first | (rw [add_block]; exact hn165_3) | (show (Addr.add _ _).block ≠ _; rw [add_block]; exact hn165_3) | exact hn165_3) (.int .i64 ((rd_T62 t159 (ji12)).f2.f1))).trans hx165_1; replace hx165_2 := (cell_far (p := ⟨gb164, 3, none⟩) (by first | (rw [add_block]; exact hn165_3) | (show (Addr.add _ _).block ≠ _; rw [add_block]; exact hn165_3) | exact hn165_3) (.int .i64 ((rd_T62 t159 (ji12)).f2.f1))).trans hx165_2; replace hx165_3 := (cell_far (p := ⟨gb164, 3, none⟩) (by first | (rw [add_block]; exact hn165_3) | (show (Addr.add _ _).block ≠ _; rw [add_block]; exact hn165_3) | exact hn165_3) (.int .i64 ((rd_T62 t159 (ji12)).f2.f1))).trans hx165_3; (try have hy165_0 := fun (n_ : Nat) => (show ((((((w18.drewN n_).setCell ⟨gb164, 0, none⟩ (.int .i64 ((rd_T62 t159 (ji12)).f0))).setCell ⟨gb164, 1, none⟩ (.int .i64 ((rd_T62 t159 (ji12)).f1))).setCell ⟨gb164, 2, none⟩ (.int .i64 ((rd_T62 t159 (ji12)).f2.f0))).setCell ⟨gb164, 3, none⟩ (.int .i64 ((rd_T62 t159 (ji12)).f2.f1)))).cell? _ = some _ from hx165_0)); (try have hy165_1 := fun (n_ : Nat) => (show ((((((w18.drewN n_).setCell ⟨gb164, 0, none⟩ (.int .i64 ((rd_T62 t159 (ji12)).f0))).setCell ⟨gb164, 1, none⟩ (.int .i64 ((rd_T62 t159 (ji12)).f1))).setCell ⟨gb164, 2, none⟩ (.int .i64 ((rd_T62 t159 (ji12)).f2.f0))).setCell ⟨gb164, 3, none⟩ (.int .i64 ((rd_T62 t159 (ji12)).f2.f1)))).cell? _ = some _ from hx165_1)); (try have hy165_2 := fun (n_ : Nat) => (show ((((((w18.drewN n_).setCell ⟨gb164, 0, none⟩ (.int .i64 ((rd_T62 t159 (ji12)).f0))).setCell ⟨gb164, 1, none⟩ (.int .i64 ((rd_T62 t159 (ji12)).f1))).setCell ⟨gb164, 2, none⟩ (.int .i64 ((rd_T62 t159 (ji12)).f2.f0))).setCell ⟨gb164, 3, none⟩ (.int .i64 ((rd_T62 t159 (ji12)).f2.f1)))).cell? _ = some _ from hx165_2)); (try have hy165_3 := fun (n_ : Nat) => (show ((((((w18.drewN n_).setCell ⟨gb164, 0, none⟩ (.int .i64 ((rd_T62 t159 (ji12)).f0))).setCell ⟨gb164, 1, none⟩ (.int .i64 ((rd_T62 t159 (ji12)).f1))).setCell ⟨gb164, 2, none⟩ (.int .i64 ((rd_T62 t159 (ji12)).f2.f0))).setCell ⟨gb164, 3, none⟩ (.int .i64 ((rd_T62 t159 (ji12)).f2.f1)))).cell? _ = some _ from hx165_3)); clear hn165_0; clear hn165_1; clear hn165_2; clear hn165_3; replace p165 := eq_true p165; replace q165 := eq_true q165) | ((with_reducible refine gate_dst (N := 8) rfl ?_); refine box_event ?hg (N := 8) ?hd (cs := #[.int .i64 0, .int .i64 0, .int .i64 0, .int .i64 0]) (t := 62) ?hr ?_; (case hd => rfl); (case hg => rfl); (case hr => first | (go_simp; done) | (go_simp; rfl)); intro gb166 hg w20 hbox hb; have n0_ := Aside0.mk (Kd.R_below (by (with_reducible repeat (first | apply Kd.R_alloc | apply Kd.R_drewN | apply Kd.R_drew)); exact (Kd.R_mono (Kd.R_far (p := ⟨gb164, 3, none⟩) (Kd.R_far (p := ⟨gb164, 2, none⟩) (Kd.R_far (p := ⟨gb164, 1, none⟩) (Kd.R_far (p := ⟨gb164, 0, none⟩) (Kd.R_types HO_3.out BK164.out (by decide)) (fun _ hk => hk.2) (.int .i64 ((rd_T62 t159 (ji12)).f0))) (fun _ hk => hk.2) (.int .i64 ((rd_T62 t159 (ji12)).f1))) (fun _ hk => hk.2) (.int .i64 ((rd_T62 t159 (ji12)).f2.f0))) (fun _ hk => hk.2) (.int .i64 ((rd_T62 t159 (ji12)).f2.f1))) (fun _ h_ => h_.1))) hb); have n1_ := Aside0.mk (Kd.R_below (Kd.R_elderB (by (with_reducible repeat (first | apply Kd.R_alloc | apply Kd.R_drewN | apply Kd.R_drew)); exact (Kd.R_mono (Kd.R_far (p := ⟨gb164, 3, none⟩) (Kd.R_far (p := ⟨gb164, 2, none⟩) (Kd.R_far (p := ⟨gb164, 1, none⟩) (Kd.R_far (p := ⟨gb164, 0, none⟩) (Kd.R_mono HO_4.out (fun k_ hk => (⟨hk, hk.2⟩ : _ ∧ k_ ≠ gb164))) (fun _ hk => hk.2) (.int .i64 ((rd_T62 t159 (ji12)).f0))) (fun _ hk => hk.2) (.int .i64 ((rd_T62 t159 (ji12)).f1))) (fun _ hk => hk.2) (.int .i64 ((rd_T62 t159 (ji12)).f2.f0))) (fun _ hk => hk.2) (.int .i64 ((rd_T62 t159 (ji12)).f2.f1))) (fun _ h_ => h_.1))) gb166 (Nat.le_of_eq hg.symm)) hb); have n2_ := Aside0.mk (blk_below (g := gb164) (o := .cells #[.int .i64 ((rd_T62 t159 (ji12)).f0), .int .i64 ((rd_T62 t159 (ji12)).f1), .int .i64 ((rd_T62 t159 (ji12)).f2.f0), .int .i64 ((rd_T62 t159 (ji12)).f2.f1)] 62 (0, 0)) (by (with_reducible repeat (first | refine blk_drewN ?_ _ | refine blk_drew ?_ | refine blk_alloc ?_ _)); refine blk_put (cs := #[.int .i64 ((rd_T62 t159 (ji12)).f0), .int .i64 ((rd_T62 t159 (ji12)).f1), .int .i64 ((rd_T62 t159 (ji12)).f2.f0), .int .i64 0]) ?_ 3 _ rfl; (with_reducible repeat (first | refine blk_drewN ?_ _ | refine blk_drew ?_ | refine blk_alloc ?_ _)); refine blk_put (cs := #[.int .i64 ((rd_T62 t159 (ji12)).f0), .int .i64 ((rd_T62 t159 (ji12)).f1), .int .i64 0, .int .i64 0]) ?_ 2 _ rfl; (with_reducible repeat (first | refine blk_drewN ?_ _ | refine blk_drew ?_ | refine blk_alloc ?_ _)); refine blk_put (cs := #[.int .i64 ((rd_T62 t159 (ji12)).f0), .int .i64 0, .int .i64 0, .int .i64 0]) ?_ 1 _ rfl; (with_reducible repeat (first | refine blk_drewN ?_ _ | refine blk_drew ?_ | refine blk_alloc ?_ _)); refine blk_put (cs := #[.int .i64 0, .int .i64 0, .int .i64 0, .int .i64 0]) ?_ 0 _ rfl; (with_reducible repeat (first | refine blk_drewN ?_ _ | refine blk_drew ?_ | refine blk_alloc ?_ _)); exact BK164.out) hb); have n3_ := Aside0.mk (below_step (by repeat (first | (with_reducible first | exact HB.out | apply below_alloc | apply pw_below_drewN | apply below_drew1 | refine below_set ?_ GE164.out) | exact HB.out)) hb); have n4_ := Aside0.mk (hbox); have n5_ := Aside0.mk ((by rw [hg]; exact (below_size (by repeat (first | (with_reducible first | exact HB.out | apply below_alloc | apply pw_below_drewN | apply below_drew1 | refine below_set ?_ GE164.out) | exact HB.out))) : w.heap.size ≤ gb166)); have n6_ := Aside0.mk ((by rw [hg]; exact (below_size (by repeat (first | (with_reducible first | exact HB.out | apply below_alloc | apply pw_below_drewN | apply below_drew1 | refine below_set ?_ GE164.out) | exact HB.out))) : w.heap.size ≤ gb166)); have n7_ := Aside0.mk ((by rw [hg]; exact Nat.ne_of_lt (blk_lt (g := gb164) (o := .cells #[.int .i64 ((rd_T62 t159 (ji12)).f0), .int .i64 ((rd_T62 t159 (ji12)).f1), .int .i64 ((rd_T62 t159 (ji12)).f2.f0), .int .i64 ((rd_T62 t159 (ji12)).f2.f1)] 62 (0, 0)) (by (with_reducible repeat (first | refine blk_drewN ?_ _ | refine blk_drew ?_ | refine blk_alloc ?_ _)); refine blk_put (cs := #[.int .i64 ((rd_T62 t159 (ji12)).f0), .int .i64 ((rd_T62 t159 (ji12)).f1), .int .i64 ((rd_T62 t159 (ji12)).f2.f0), .int .i64 0]) ?_ 3 _ rfl; (with_reducible repeat (first | refine blk_drewN ?_ _ | refine blk_drew ?_ | refine blk_alloc ?_ _)); refine blk_put (cs := #[.int .i64 ((rd_T62 t159 (ji12)).f0), .int .i64 ((rd_T62 t159 (ji12)).f1), .int .i64 0, .int .i64 0]) ?_ 2 _ rfl; (with_reducible repeat (first | refine blk_drewN ?_ _ | refine blk_drew ?_ | refine blk_alloc ?_ _)); refine blk_put (cs := #[.int .i64 ((rd_T62 t159 (ji12)).f0), .int .i64 0, .int .i64 0, .int .i64 0]) ?_ 1 _ rfl; (with_reducible repeat (first | refine blk_drewN ?_ _ | refine blk_drew ?_ | refine blk_alloc ?_ _)); refine blk_put (cs := #[.int .i64 0, .int .i64 0, .int .i64 0, .int .i64 0]) ?_ 0 _ rfl; (with_reducible repeat (first | refine blk_drewN ?_ _ | refine blk_drew ?_ | refine blk_alloc ?_ _)); exact BK164.out)) : gb164 ≠ gb166)); have n8_ := Aside0.mk ((by rw [hg]; exact Nat.ne_of_gt (blk_lt (g := gb164) (o := .cells #[.int .i64 ((rd_T62 t159 (ji12)).f0), .int .i64 ((rd_T62 t159 (ji12)).f1), .int .i64 ((rd_T62 t159 (ji12)).f2.f0), .int .i64 ((rd_T62 t159 (ji12)).f2.f1)] 62 (0, 0)) (by (with_reducible repeat (first | refine blk_drewN ?_ _ | refine blk_drew ?_ | refine blk_alloc ?_ _)); refine blk_put (cs := #[.int .i64 ((rd_T62 t159 (ji12)).f0), .int .i64 ((rd_T62 t159 (ji12)).f1), .int .i64 ((rd_T62 t159 (ji12)).f2.f0), .int .i64 0]) ?_ 3 _ rfl; (with_reducible repeat (first | refine blk_drewN ?_ _ | refine blk_drew ?_ | refine blk_alloc ?_ _)); refine blk_put (cs := #[.int .i64 ((rd_T62 t159 (ji12)).f0), .int .i64 ((rd_T62 t159 (ji12)).f1), .int .i64 0, .int .i64 0]) ?_ 2 _ rfl; (with_reducible repeat (first | refine blk_drewN ?_ _ | refine blk_drew ?_ | refine blk_alloc ?_ _)); refine blk_put (cs := #[.int .i64 ((rd_T62 t159 (ji12)).f0), .int .i64 0, .int .i64 0, .int .i64 0]) ?_ 1 _ rfl; (with_reducible repeat (first | refine blk_drewN ?_ _ | refine blk_drew ?_ | refine blk_alloc ?_ _)); refine blk_put (cs := #[.int .i64 0, .int .i64 0, .int .i64 0, .int .i64 0]) ?_ 0 _ rfl; (with_reducible repeat (first | refine blk_drewN ?_ _ | refine blk_drew ?_ | refine blk_alloc ?_ _)); exact BK164.out)) : gb166 ≠ gb164)); clear HO_3; clear HO_4; clear BK164; clear HB; have HO_3 := n0_; have HO_4 := n1_; have BK164 := n2_; have HB := n3_; have BK166 := n4_; have GW166 := n5_; have GE166 := n6_; have NB164_166 := n7_; have NB166_164 := n8_; clear n0_ n1_ n2_ n3_ n4_ n5_ n6_ n7_ n8_; clear hb hbox hg; have hnb21 := NB166_164.out; have hnc21 := NB164_166.out; have hcz22_0 : w20.cell? ⟨gb166, 0, none⟩ = some (.int .i64 0) := (blk_cell BK166.out 0).trans rfl; have hcz22_1 : w20.cell? ⟨gb166, 1, none⟩ = some (.int .i64 0) := (blk_cell BK166.out 1).trans rfl; have hcz22_2 : w20.cell? ⟨gb166, 2, none⟩ = some (.int .i64 0) := (blk_cell BK166.out 2).trans rfl; have hcz22_3 : w20.cell? ⟨gb166, 3, none⟩ = some (.int .i64 0) := (blk_cell BK166.out 3).trans rfl; have hfz22_0 := blk_frozen BK166.out 0; have hfz22_1 := blk_frozen BK166.out 1; have hfz22_2 := blk_frozen BK166.out 2; have hfz22_3 := blk_frozen BK166.out 3))
                  repeat (go_quiet (first | ((with_reducible refine gate_dst (N := 7) rfl ?_); refine box_event ?hg (N := 7) ?hd (cs := #[.int .i64 0, .int .i64 0, .int .i64 0, .int .i64 0]) (t := 62) ?hr ?_; (case hd => rfl); (case hg => rfl); (case hr => first | (go_simp; done) | (go_simp; rfl)); intro gb164 hg w18 hbox hb; have n0_ := Aside0.mk (Kd.R_below (by (with_reducible repeat (first | apply Kd.R_alloc | apply Kd.R_drewN | apply Kd.R_drew)); exact HO_3.out) hb); have n1_ := Aside0.mk (Kd.R_below (Kd.R_elderB (by (with_reducible repeat (first | apply Kd.R_alloc | apply Kd.R_drewN | apply Kd.R_drew)); exact HO_4.out) gb164 (Nat.le_of_eq hg.symm)) hb); have n2_ := Aside0.mk (below_step (by repeat (first | (with_reducible first | exact HB.out | apply below_alloc | apply pw_below_drewN | apply below_drew1) | exact HB.out)) hb); have n3_ := Aside0.mk (hbox); have n4_ := Aside0.mk ((by rw [hg]; exact (below_size (by repeat (first | (with_reducible first | exact HB.out | apply below_alloc | apply pw_below_drewN | apply below_drew1) | exact HB.out))) : w.heap.size ≤ gb164)); have n5_ := Aside0.mk ((by rw [hg]; exact (below_size (by repeat (first | (with_reducible first | exact HB.out | apply below_alloc | apply pw_below_drewN | apply below_drew1) | exact HB.out))) : w.heap.size ≤ gb164)); clear HO_3; clear HO_4; clear HB; have HO_3 := n0_; have HO_4 := n1_; have HB := n2_; have BK164 := n3_; have GW164 := n4_; have GE164 := n5_; clear n0_ n1_ n2_ n3_ n4_ n5_; clear hb hbox hg; have hcz19_0 : w18.cell? ⟨gb164, 0, none⟩ = some (.int .i64 0) := (blk_cell BK164.out 0).trans rfl; have hcz19_1 : w18.cell? ⟨gb164, 1, none⟩ = some (.int .i64 0) := (blk_cell BK164.out 1).trans rfl; have hcz19_2 : w18.cell? ⟨gb164, 2, none⟩ = some (.int .i64 0) := (blk_cell BK164.out 2).trans rfl; have hcz19_3 : w18.cell? ⟨gb164, 3, none⟩ = some (.int .i64 0) := (blk_cell BK164.out 3).trans rfl; have hfz19_0 := blk_frozen BK164.out 0; have hfz19_1 := blk_frozen BK164.out 1; have hfz19_2 := blk_frozen BK164.out 2; have hfz19_3 := blk_frozen BK164.out 3; have p165 : 0 ≤ (x6_1 : Int) := of_decide_eq_true (by first | (with_reducible assumption) | assumption); have q165 : x6_1 < (t159.length : Int) := of_decide_eq_true (by first | (with_reducible assumption) | assumption); obtain ⟨ad165, e165, hx165_0, hx165_1, hx165_2, hx165_3⟩ := at_T62 (Kd.R_reads' HO_4.out).2.2 x6_1 p165 q165; obtain rfl : ad163 = ad165 := (by injection e165); have hn165_0 : ad163.block ≠ gb164 := Kd.own_blk (Kd.R_away HO_4.out (fun _ hk => hk.2)); have hn165_1 : ad163.block ≠ gb164 := Kd.own_blk (Kd.R_away HO_4.out (fun _ hk => hk.2)); have hn165_2 : ad163.block ≠ gb164 := Kd.own_blk (Kd.R_away HO_4.out (fun _ hk => hk.2)); have hn165_3 : ad163.block ≠ gb164 := Kd.own_blk (Kd.R_away HO_4.out (fun _ hk => hk.2)); replace hx165_0 := (cell_far (p := ⟨gb164, 0, none⟩) (by first | (rw [add_block]; exact hn165_0) | (show (Addr.add _ _).block ≠ _; rw [add_block]; exact hn165_0) | exact hn165_0) (.int .i64 ((rd_T62 t159 (ji12)).f0))).trans hx165_0; replace hx165_1 := (cell_far (p := ⟨gb164, 0, none⟩) (by first | (rw [add_block]; exact hn165_0) | (show (Addr.add _ _).block ≠ _; rw [add_block]; exact hn165_0) | exact hn165_0) (.int .i64 ((rd_T62 t159 (ji12)).f0))).trans hx165_1; replace hx165_2 := (cell_far (p := ⟨gb164, 0, none⟩) (by first | (rw [add_block]; exact hn165_0) | (show (Addr.add _ _).block ≠ _; rw [add_block]; exact hn165_0) | exact hn165_0) (.int .i64 ((rd_T62 t159 (ji12)).f0))).trans hx165_2; replace hx165_3 := (cell_far (p := ⟨gb164, 0, none⟩) (by first | (rw [add_block]; exact hn165_0) | (show (Addr.add _ _).block ≠ _; rw [add_block]; exact hn165_0) | exact hn165_0) (.int .i64 ((rd_T62 t159 (ji12)).f0))).trans hx165_3; replace hx165_0 := (cell_far (p := ⟨gb164, 1, none⟩) (by first | (rw [add_block]; exact hn165_1) | (show (Addr.add _ _).block ≠ _; rw [add_block]; exact hn165_1) | exact hn165_1) (.int .i64 ((rd_T62 t159 (ji12)).f1))).trans hx165_0; replace hx165_1 := (cell_far (p := ⟨gb164, 1, none⟩) (by first | (rw [add_block]; exact hn165_1) | (show (Addr.add _ _).block ≠ _; rw [add_block]; exact hn165_1) | exact hn165_1) (.int .i64 ((rd_T62 t159 (ji12)).f1))).trans hx165_1; replace hx165_2 := (cell_far (p := ⟨gb164, 1, none⟩) (by first | (rw [add_block]; exact hn165_1) | (show (Addr.add _ _).block ≠ _; rw [add_block]; exact hn165_1) | exact hn165_1) (.int .i64 ((rd_T62 t159 (ji12)).f1))).trans hx165_2; replace hx165_3 := (cell_far (p := ⟨gb164, 1, none⟩) (by first | (rw [add_block]; exact hn165_1) | (show (Addr.add _ _).block ≠ _; rw [add_block]; exact hn165_1) | exact hn165_1) (.int .i64 ((rd_T62 t159 (ji12)).f1))).trans hx165_3; replace hx165_0 := (cell_far (p := ⟨gb164, 2, none⟩) (by first | (rw [add_block]; exact hn165_2) | (show (Addr.add _ _).block ≠ _; rw [add_block]; exact hn165_2) | exact hn165_2) (.int .i64 ((rd_T62 t159 (ji12)).f2.f0))).trans hx165_0; replace hx165_1 := (cell_far (p := ⟨gb164, 2, none⟩) (by first | (rw [add_block]; exact hn165_2) | (show (Addr.add _ _).block ≠ _; rw [add_block]; exact hn165_2) | exact hn165_2) (.int .i64 ((rd_T62 t159 (ji12)).f2.f0))).trans hx165_1; replace hx165_2 := (cell_far (p := ⟨gb164, 2, none⟩) (by first | (rw [add_block]; exact hn165_2) | (show (Addr.add _ _).block ≠ _; rw [add_block]; exact hn165_2) | exact hn165_2) (.int .i64 ((rd_T62 t159 (ji12)).f2.f0))).trans hx165_2; replace hx165_3 := (cell_far (p := ⟨gb164, 2, none⟩) (by first | (rw [add_block]; exact hn165_2) | (show (Addr.add _ _).block ≠ _; rw [add_block]; exact hn165_2) | exact hn165_2) (.int .i64 ((rd_T62 t159 (ji12)).f2.f0))).trans hx165_3; replace hx165_0 := (cell_far (p := ⟨gb164, 3, none⟩) (by first | (rw [add_block]; exact hn165_3) | (show (Addr.add _ _).block ≠ _; rw [add_block]; exact hn165_3) | exact hn165_3) (.int .i64 ((rd_T62 t159 (ji12)).f2.f1))).trans hx165_0; replace hx165_1 := (cell_far (p := ⟨gb164, 3, none⟩) (by first | (rw [add_block]; exact hn165_3) | (show (Addr.add _ _).block ≠ _; rw [add_block]; exact hn165_3) | exact hn165_3) (.int .i64 ((rd_T62 t159 (ji12)).f2.f1))).trans hx165_1; replace hx165_2 := (cell_far (p := ⟨gb164, 3, none⟩) (by first | (rw [add_block]; exact hn165_3) | (show (Addr.add _ _).block ≠ _; rw [add_block]; exact hn165_3) | exact hn165_3) (.int .i64 ((rd_T62 t159 (ji12)).f2.f1))).trans hx165_2; replace hx165_3 := (cell_far (p := ⟨gb164, 3, none⟩) (by first | (rw [add_block]; exact hn165_3) | (show (Addr.add _ _).block ≠ _; rw [add_block]; exact hn165_3) | exact hn165_3) (.int .i64 ((rd_T62 t159 (ji12)).f2.f1))).trans hx165_3; (try have hy165_0 := fun (n_ : Nat) => (show ((((((w18.drewN n_).setCell ⟨gb164, 0, none⟩ (.int .i64 ((rd_T62 t159 (ji12)).f0))).setCell ⟨gb164, 1, none⟩ (.int .i64 ((rd_T62 t159 (ji12)).f1))).setCell ⟨gb164, 2, none⟩ (.int .i64 ((rd_T62 t159 (ji12)).f2.f0))).setCell ⟨gb164, 3, none⟩ (.int .i64 ((rd_T62 t159 (ji12)).f2.f1)))).cell? _ = some _ from hx165_0)); (try have hy165_1 := fun (n_ : Nat) => (show ((((((w18.drewN n_).setCell ⟨gb164, 0, none⟩ (.int .i64 ((rd_T62 t159 (ji12)).f0))).setCell ⟨gb164, 1, none⟩ (.int .i64 ((rd_T62 t159 (ji12)).f1))).setCell ⟨gb164, 2, none⟩ (.int .i64 ((rd_T62 t159 (ji12)).f2.f0))).setCell ⟨gb164, 3, none⟩ (.int .i64 ((rd_T62 t159 (ji12)).f2.f1)))).cell? _ = some _ from hx165_1)); (try have hy165_2 := fun (n_ : Nat) => (show ((((((w18.drewN n_).setCell ⟨gb164, 0, none⟩ (.int .i64 ((rd_T62 t159 (ji12)).f0))).setCell ⟨gb164, 1, none⟩ (.int .i64 ((rd_T62 t159 (ji12)).f1))).setCell ⟨gb164, 2, none⟩ (.int .i64 ((rd_T62 t159 (ji12)).f2.f0))).setCell ⟨gb164, 3, none⟩ (.int .i64 ((rd_T62 t159 (ji12)).f2.f1)))).cell? _ = some _ from hx165_2)); (try have hy165_3 := fun (n_ : Nat) => (show ((((((w18.drewN n_).setCell ⟨gb164, 0, none⟩ (.int .i64 ((rd_T62 t159 (ji12)).f0))).setCell ⟨gb164, 1, none⟩ (.int .i64 ((rd_T62 t159 (ji12)).f1))).setCell ⟨gb164, 2, none⟩ (.int .i64 ((rd_T62 t159 (ji12)).f2.f0))).setCell ⟨gb164, 3, none⟩ (.int .i64 ((rd_T62 t159 (ji12)).f2.f1)))).cell? _ = some _ from hx165_3)); clear hn165_0; clear hn165_1; clear hn165_2; clear hn165_3; replace p165 := eq_true p165; replace q165 := eq_true q165) | ((with_reducible refine gate_dst (N := 8) rfl ?_); refine box_event ?hg (N := 8) ?hd (cs := #[.int .i64 0, .int .i64 0, .int .i64 0, .int .i64 0]) (t := 62) ?hr ?_; (case hd => rfl); (case hg => rfl); (case hr => first | (go_simp; done) | (go_simp; rfl)); intro gb166 hg w20 hbox hb; have n0_ := Aside0.mk (Kd.R_below (by (with_reducible repeat (first | apply Kd.R_alloc | apply Kd.R_drewN | apply Kd.R_drew)); exact (Kd.R_mono (Kd.R_far (p := ⟨gb164, 3, none⟩) (Kd.R_far (p := ⟨gb164, 2, none⟩) (Kd.R_far (p := ⟨gb164, 1, none⟩) (Kd.R_far (p := ⟨gb164, 0, none⟩) (Kd.R_types HO_3.out BK164.out (by decide)) (fun _ hk => hk.2) (.int .i64 ((rd_T62 t159 (ji12)).f0))) (fun _ hk => hk.2) (.int .i64 ((rd_T62 t159 (ji12)).f1))) (fun _ hk => hk.2) (.int .i64 ((rd_T62 t159 (ji12)).f2.f0))) (fun _ hk => hk.2) (.int .i64 ((rd_T62 t159 (ji12)).f2.f1))) (fun _ h_ => h_.1))) hb); have n1_ := Aside0.mk (Kd.R_below (Kd.R_elderB (by (with_reducible repeat (first | apply Kd.R_alloc | apply Kd.R_drewN | apply Kd.R_drew)); exact (Kd.R_mono (Kd.R_far (p := ⟨gb164, 3, none⟩) (Kd.R_far (p := ⟨gb164, 2, none⟩) (Kd.R_far (p := ⟨gb164, 1, none⟩) (Kd.R_far (p := ⟨gb164, 0, none⟩) (Kd.R_mono HO_4.out (fun k_ hk => (⟨hk, hk.2⟩ : _ ∧ k_ ≠ gb164))) (fun _ hk => hk.2) (.int .i64 ((rd_T62 t159 (ji12)).f0))) (fun _ hk => hk.2) (.int .i64 ((rd_T62 t159 (ji12)).f1))) (fun _ hk => hk.2) (.int .i64 ((rd_T62 t159 (ji12)).f2.f0))) (fun _ hk => hk.2) (.int .i64 ((rd_T62 t159 (ji12)).f2.f1))) (fun _ h_ => h_.1))) gb166 (Nat.le_of_eq hg.symm)) hb); have n2_ := Aside0.mk (blk_below (g := gb164) (o := .cells #[.int .i64 ((rd_T62 t159 (ji12)).f0), .int .i64 ((rd_T62 t159 (ji12)).f1), .int .i64 ((rd_T62 t159 (ji12)).f2.f0), .int .i64 ((rd_T62 t159 (ji12)).f2.f1)] 62 (0, 0)) (by (with_reducible repeat (first | refine blk_drewN ?_ _ | refine blk_drew ?_ | refine blk_alloc ?_ _)); refine blk_put (cs := #[.int .i64 ((rd_T62 t159 (ji12)).f0), .int .i64 ((rd_T62 t159 (ji12)).f1), .int .i64 ((rd_T62 t159 (ji12)).f2.f0), .int .i64 0]) ?_ 3 _ rfl; (with_reducible repeat (first | refine blk_drewN ?_ _ | refine blk_drew ?_ | refine blk_alloc ?_ _)); refine blk_put (cs := #[.int .i64 ((rd_T62 t159 (ji12)).f0), .int .i64 ((rd_T62 t159 (ji12)).f1), .int .i64 0, .int .i64 0]) ?_ 2 _ rfl; (with_reducible repeat (first | refine blk_drewN ?_ _ | refine blk_drew ?_ | refine blk_alloc ?_ _)); refine blk_put (cs := #[.int .i64 ((rd_T62 t159 (ji12)).f0), .int .i64 0, .int .i64 0, .int .i64 0]) ?_ 1 _ rfl; (with_reducible repeat (first | refine blk_drewN ?_ _ | refine blk_drew ?_ | refine blk_alloc ?_ _)); refine blk_put (cs := #[.int .i64 0, .int .i64 0, .int .i64 0, .int .i64 0]) ?_ 0 _ rfl; (with_reducible repeat (first | refine blk_drewN ?_ _ | refine blk_drew ?_ | refine blk_alloc ?_ _)); exact BK164.out) hb); have n3_ := Aside0.mk (below_step (by repeat (first | (with_reducible first | exact HB.out | apply below_alloc | apply pw_below_drewN | apply below_drew1 | refine below_set ?_ GE164.out) | exact HB.out)) hb); have n4_ := Aside0.mk (hbox); have n5_ := Aside0.mk ((by rw [hg]; exact (below_size (by repeat (first | (with_reducible first | exact HB.out | apply below_alloc | apply pw_below_drewN | apply below_drew1 | refine below_set ?_ GE164.out) | exact HB.out))) : w.heap.size ≤ gb166)); have n6_ := Aside0.mk ((by rw [hg]; exact (below_size (by repeat (first | (with_reducible first | exact HB.out | apply below_alloc | apply pw_below_drewN | apply below_drew1 | refine below_set ?_ GE164.out) | exact HB.out))) : w.heap.size ≤ gb166)); have n7_ := Aside0.mk ((by rw [hg]; exact Nat.ne_of_lt (blk_lt (g := gb164) (o := .cells #[.int .i64 ((rd_T62 t159 (ji12)).f0), .int .i64 ((rd_T62 t159 (ji12)).f1), .int .i64 ((rd_T62 t159 (ji12)).f2.f0), .int .i64 ((rd_T62 t159 (ji12)).f2.f1)] 62 (0, 0)) (by (with_reducible repeat (first | refine blk_drewN ?_ _ | refine blk_drew ?_ | refine blk_alloc ?_ _)); refine blk_put (cs := #[.int .i64 ((rd_T62 t159 (ji12)).f0), .int .i64 ((rd_T62 t159 (ji12)).f1), .int .i64 ((rd_T62 t159 (ji12)).f2.f0), .int .i64 0]) ?_ 3 _ rfl; (with_reducible repeat (first | refine blk_drewN ?_ _ | refine blk_drew ?_ | refine blk_alloc ?_ _)); refine blk_put (cs := #[.int .i64 ((rd_T62 t159 (ji12)).f0), .int .i64 ((rd_T62 t159 (ji12)).f1), .int .i64 0, .int .i64 0]) ?_ 2 _ rfl; (with_reducible repeat (first | refine blk_drewN ?_ _ | refine blk_drew ?_ | refine blk_alloc ?_ _)); refine blk_put (cs := #[.int .i64 ((rd_T62 t159 (ji12)).f0), .int .i64 0, .int .i64 0, .int .i64 0]) ?_ 1 _ rfl; (with_reducible repeat (first | refine blk_drewN ?_ _ | refine blk_drew ?_ | refine blk_alloc ?_ _)); refine blk_put (cs := #[.int .i64 0, .int .i64 0, .int .i64 0, .int .i64 0]) ?_ 0 _ rfl; (with_reducible repeat (first | refine blk_drewN ?_ _ | refine blk_drew ?_ | refine blk_alloc ?_ _)); exact BK164.out)) : gb164 ≠ gb166)); have n8_ := Aside0.mk ((by rw [hg]; exact Nat.ne_of_gt (blk_lt (g := gb164) (o := .cells #[.int .i64 ((rd_T62 t159 (ji12)).f0), .int .i64 ((rd_T62 t159 (ji12)).f1), .int .i64 ((rd_T62 t159 (ji12)).f2.f0), .int .i64 ((rd_T62 t159 (ji12)).f2.f1)] 62 (0, 0)) (by (with_reducible repeat (first | refine blk_drewN ?_ _ | refine blk_drew ?_ | refine blk_alloc ?_ _)); refine blk_put (cs := #[.int .i64 ((rd_T62 t159 (ji12)).f0), .int .i64 ((rd_T62 t159 (ji12)).f1), .int .i64 ((rd_T62 t159 (ji12)).f2.f0), .int .i64 0]) ?_ 3 _ rfl; (with_reducible repeat (first | refine blk_drewN ?_ _ | refine blk_drew ?_ | refine blk_alloc ?_ _)); refine blk_put (cs := #[.int .i64 ((rd_T62 t159 (ji12)).f0), .int .i64 ((rd_T62 t159 (ji12)).f1), .int .i64 0, .int .i64 0]) ?_ 2 _ rfl; (with_reducible repeat (first | refine blk_drewN ?_ _ | refine blk_drew ?_ | refine blk_alloc ?_ _)); refine blk_put (cs := #[.int .i64 ((rd_T62 t159 (ji12)).f0), .int .i64 0, .int .i64 0, .int .i64 0]) ?_ 1 _ rfl; (with_reducible repeat (first | refine blk_drewN ?_ _ | refine blk_drew ?_ | refine blk_alloc ?_ _)); refine blk_put (cs := #[.int .i64 0, .int .i64 0, .int .i64 0, .int .i64 0]) ?_ 0 _ rfl; (with_reducible repeat (first | refine blk_drewN ?_ _ | refine blk_drew ?_ | refine blk_alloc ?_ _)); exact BK164.out)) : gb166 ≠ gb164)); clear HO_3; clear HO_4; clear BK164; clear HB; have HO_3 := n0_; have HO_4 := n1_; have BK164 := n2_; have HB := n3_; have BK166 := n4_; have GW166 := n5_; have GE166 := n6_; have NB164_166 := n7_; have NB166_164 := n8_; clear n0_ n1_ n2_ n3_ n4_ n5_ n6_ n7_ n8_; clear hb hbox hg; have hnb21 := NB166_164.out; have hnc21 := NB164_166.out; have hcz22_0 : w20.cell? ⟨gb166, 0, none⟩ = some (.int .i64 0) := (blk_cell BK166.out 0).trans rfl; have hcz22_1 : w20.cell? ⟨gb166, 1, none⟩ = some (.int .i64 0) := (blk_cell BK166.out 1).trans rfl; have hcz22_2 : w20.cell? ⟨gb166, 2, none⟩ = some (.int .i64 0) := (blk_cell BK166.out 2).trans rfl; have hcz22_3 : w20.cell? ⟨gb166, 3, none⟩ = some (.int .i64 0) := (blk_cell BK166.out 3).trans rfl; have hfz22_0 := blk_frozen BK166.out 0; have hfz22_1 := blk_frozen BK166.out 1; have hfz22_2 := blk_frozen BK166.out 2; have hfz22_3 := blk_frozen BK166.out 3)); go_upto_region 12 with (first | ((with_reducible refine gate_dst (N := 7) rfl ?_); refine box_event ?hg (N := 7) ?hd (cs := #[.int .i64 0, .int .i64 0, .int .i64 0, .int .i64 0]) (t := 62) ?hr ?_; (case hd => rfl); (case hg => rfl); (case hr => first | (go_simp; done) | (go_simp; rfl)); intro gb164 hg w18 hbox hb; have n0_ := Aside0.mk (Kd.R_below (by (with_reducible repeat (first | apply Kd.R_alloc | apply Kd.R_drewN | apply Kd.R_drew)); exact HO_3.out) hb); have n1_ := Aside0.mk (Kd.R_below (Kd.R_elderB (by (with_reducible repeat (first | apply Kd.R_alloc | apply Kd.R_drewN | apply Kd.R_drew)); exact HO_4.out) gb164 (Nat.le_of_eq hg.symm)) hb); have n2_ := Aside0.mk (below_step (by repeat (first | (with_reducible first | exact HB.out | apply below_alloc | apply pw_below_drewN | apply below_drew1) | exact HB.out)) hb); have n3_ := Aside0.mk (hbox); have n4_ := Aside0.mk ((by rw [hg]; exact (below_size (by repeat (first | (with_reducible first | exact HB.out | apply below_alloc | apply pw_below_drewN | apply below_drew1) | exact HB.out))) : w.heap.size ≤ gb164)); have n5_ := Aside0.mk ((by rw [hg]; exact (below_size (by repeat (first | (with_reducible first | exact HB.out | apply below_alloc | apply pw_below_drewN | apply below_drew1) | exact HB.out))) : w.heap.size ≤ gb164)); clear HO_3; clear HO_4; clear HB; have HO_3 := n0_; have HO_4 := n1_; have HB := n2_; have BK164 := n3_; have GW164 := n4_; have GE164 := n5_; clear n0_ n1_ n2_ n3_ n4_ n5_; clear hb hbox hg; have hcz19_0 : w18.cell? ⟨gb164, 0, none⟩ = some (.int .i64 0) := (blk_cell BK164.out 0).trans rfl; have hcz19_1 : w18.cell? ⟨gb164, 1, none⟩ = some (.int .i64 0) := (blk_cell BK164.out 1).trans rfl; have hcz19_2 : w18.cell? ⟨gb164, 2, none⟩ = some (.int .i64 0) := (blk_cell BK164.out 2).trans rfl; have hcz19_3 : w18.cell? ⟨gb164, 3, none⟩ = some (.int .i64 0) := (blk_cell BK164.out 3).trans rfl; have hfz19_0 := blk_frozen BK164.out 0; have hfz19_1 := blk_frozen BK164.out 1; have hfz19_2 := blk_frozen BK164.out 2; have hfz19_3 := blk_frozen BK164.out 3; have p165 : 0 ≤ (x6_1 : Int) := of_decide_eq_true (by first | (with_reducible assumption) | assumption); have q165 : x6_1 < (t159.length : Int) := of_decide_eq_true (by first | (with_reducible assumption) | assumption); obtain ⟨ad165, e165, hx165_0, hx165_1, hx165_2, hx165_3⟩ := at_T62 (Kd.R_reads' HO_4.out).2.2 x6_1 p165 q165; obtain rfl : ad163 = ad165 := (by injection e165); have hn165_0 : ad163.block ≠ gb164 := Kd.own_blk (Kd.R_away HO_4.out (fun _ hk => hk.2)); have hn165_1 : ad163.block ≠ gb164 := Kd.own_blk (Kd.R_away HO_4.out (fun _ hk => hk.2)); have hn165_2 : ad163.block ≠ gb164 := Kd.own_blk (Kd.R_away HO_4.out (fun _ hk => hk.2)); have hn165_3 : ad163.block ≠ gb164 := Kd.own_blk (Kd.R_away HO_4.out (fun _ hk => hk.2)); replace hx165_0 := (cell_far (p := ⟨gb164, 0, none⟩) (by first | (rw [add_block]; exact hn165_0) | (show (Addr.add _ _).block ≠ _; rw [add_block]; exact hn165_0) | exact hn165_0) (.int .i64 ((rd_T62 t159 (ji12)).f0))).trans hx165_0; replace hx165_1 := (cell_far (p := ⟨gb164, 0, none⟩) (by first | (rw [add_block]; exact hn165_0) | (show (Addr.add _ _).block ≠ _; rw [add_block]; exact hn165_0) | exact hn165_0) (.int .i64 ((rd_T62 t159 (ji12)).f0))).trans hx165_1; replace hx165_2 := (cell_far (p := ⟨gb164, 0, none⟩) (by first | (rw [add_block]; exact hn165_0) | (show (Addr.add _ _).block ≠ _; rw [add_block]; exact hn165_0) | exact hn165_0) (.int .i64 ((rd_T62 t159 (ji12)).f0))).trans hx165_2; replace hx165_3 := (cell_far (p := ⟨gb164, 0, none⟩) (by first | (rw [add_block]; exact hn165_0) | (show (Addr.add _ _).block ≠ _; rw [add_block]; exact hn165_0) | exact hn165_0) (.int .i64 ((rd_T62 t159 (ji12)).f0))).trans hx165_3; replace hx165_0 := (cell_far (p := ⟨gb164, 1, none⟩) (by first | (rw [add_block]; exact hn165_1) | (show (Addr.add _ _).block ≠ _; rw [add_block]; exact hn165_1) | exact hn165_1) (.int .i64 ((rd_T62 t159 (ji12)).f1))).trans hx165_0; replace hx165_1 := (cell_far (p := ⟨gb164, 1, none⟩) (by first | (rw [add_block]; exact hn165_1) | (show (Addr.add _ _).block ≠ _; rw [add_block]; exact hn165_1) | exact hn165_1) (.int .i64 ((rd_T62 t159 (ji12)).f1))).trans hx165_1; replace hx165_2 := (cell_far (p := ⟨gb164, 1, none⟩) (by first | (rw [add_block]; exact hn165_1) | (show (Addr.add _ _).block ≠ _; rw [add_block]; exact hn165_1) | exact hn165_1) (.int .i64 ((rd_T62 t159 (ji12)).f1))).trans hx165_2; replace hx165_3 := (cell_far (p := ⟨gb164, 1, none⟩) (by first | (rw [add_block]; exact hn165_1) | (show (Addr.add _ _).block ≠ _; rw [add_block]; exact hn165_1) | exact hn165_1) (.int .i64 ((rd_T62 t159 (ji12)).f1))).trans hx165_3; replace hx165_0 := (cell_far (p := ⟨gb164, 2, none⟩) (by first | (rw [add_block]; exact hn165_2) | (show (Addr.add _ _).block ≠ _; rw [add_block]; exact hn165_2) | exact hn165_2) (.int .i64 ((rd_T62 t159 (ji12)).f2.f0))).trans hx165_0; replace hx165_1 := (cell_far (p := ⟨gb164, 2, none⟩) (by first | (rw [add_block]; exact hn165_2) | (show (Addr.add _ _).block ≠ _; rw [add_block]; exact hn165_2) | exact hn165_2) (.int .i64 ((rd_T62 t159 (ji12)).f2.f0))).trans hx165_1; replace hx165_2 := (cell_far (p := ⟨gb164, 2, none⟩) (by first | (rw [add_block]; exact hn165_2) | (show (Addr.add _ _).block ≠ _; rw [add_block]; exact hn165_2) | exact hn165_2) (.int .i64 ((rd_T62 t159 (ji12)).f2.f0))).trans hx165_2; replace hx165_3 := (cell_far (p := ⟨gb164, 2, none⟩) (by first | (rw [add_block]; exact hn165_2) | (show (Addr.add _ _).block ≠ _; rw [add_block]; exact hn165_2) | exact hn165_2) (.int .i64 ((rd_T62 t159 (ji12)).f2.f0))).trans hx165_3; replace hx165_0 := (cell_far (p := ⟨gb164, 3, none⟩) (by first | (rw [add_block]; exact hn165_3) | (show (Addr.add _ _).block ≠ _; rw [add_block]; exact hn165_3) | exact hn165_3) (.int .i64 ((rd_T62 t159 (ji12)).f2.f1))).trans hx165_0; replace hx165_1 := (cell_far (p := ⟨gb164, 3, none⟩) (by first | (rw [add_block]; exact hn165_3) | (show (Addr.add _ _).block ≠ _; rw [add_block]; exact hn165_3) | exact hn165_3) (.int .i64 ((rd_T62 t159 (ji12)).f2.f1))).trans hx165_1; replace hx165_2 := (cell_far (p := ⟨gb164, 3, none⟩) (by first | (rw [add_block]; exact hn165_3) | (show (Addr.add _ _).block ≠ _; rw [add_block]; exact hn165_3) | exact hn165_3) (.int .i64 ((rd_T62 t159 (ji12)).f2.f1))).trans hx165_2; replace hx165_3 := (cell_far (p := ⟨gb164, 3, none⟩) (by first | (rw [add_block]; exact hn165_3) | (show (Addr.add _ _).block ≠ _; rw [add_block]; exact hn165_3) | exact hn165_3) (.int .i64 ((rd_T62 t159 (ji12)).f2.f1))).trans hx165_3; (try have hy165_0 := fun (n_ : Nat) => (show ((((((w18.drewN n_).setCell ⟨gb164, 0, none⟩ (.int .i64 ((rd_T62 t159 (ji12)).f0))).setCell ⟨gb164, 1, none⟩ (.int .i64 ((rd_T62 t159 (ji12)).f1))).setCell ⟨gb164, 2, none⟩ (.int .i64 ((rd_T62 t159 (ji12)).f2.f0))).setCell ⟨gb164, 3, none⟩ (.int .i64 ((rd_T62 t159 (ji12)).f2.f1)))).cell? _ = some _ from hx165_0)); (try have hy165_1 := fun (n_ : Nat) => (show ((((((w18.drewN n_).setCell ⟨gb164, 0, none⟩ (.int .i64 ((rd_T62 t159 (ji12)).f0))).setCell ⟨gb164, 1, none⟩ (.int .i64 ((rd_T62 t159 (ji12)).f1))).setCell ⟨gb164, 2, none⟩ (.int .i64 ((rd_T62 t159 (ji12)).f2.f0))).setCell ⟨gb164, 3, none⟩ (.int .i64 ((rd_T62 t159 (ji12)).f2.f1)))).cell? _ = some _ from hx165_1)); (try have hy165_2 := fun (n_ : Nat) => (show ((((((w18.drewN n_).setCell ⟨gb164, 0, none⟩ (.int .i64 ((rd_T62 t159 (ji12)).f0))).setCell ⟨gb164, 1, none⟩ (.int .i64 ((rd_T62 t159 (ji12)).f1))).setCell ⟨gb164, 2, none⟩ (.int .i64 ((rd_T62 t159 (ji12)).f2.f0))).setCell ⟨gb164, 3, none⟩ (.int .i64 ((rd_T62 t159 (ji12)).f2.f1)))).cell? _ = some _ from hx165_2)); (try have hy165_3 := fun (n_ : Nat) => (show ((((((w18.drewN n_).setCell ⟨gb164, 0, none⟩ (.int .i64 ((rd_T62 t159 (ji12)).f0))).setCell ⟨gb164, 1, none⟩ (.int .i64 ((rd_T62 t159 (ji12)).f1))).setCell ⟨gb164, 2, none⟩ (.int .i64 ((rd_T62 t159 (ji12)).f2.f0))).setCell ⟨gb164, 3, none⟩ (.int .i64 ((rd_T62 t159 (ji12)).f2.f1)))).cell? _ = some _ from hx165_3)); clear hn165_0; clear hn165_1; clear hn165_2; clear hn165_3; replace p165 := eq_true p165; replace q165 := eq_true q165) | ((with_reducible refine gate_dst (N := 8) rfl ?_); refine box_event ?hg (N := 8) ?hd (cs := #[.int .i64 0, .int .i64 0, .int .i64 0, .int .i64 0]) (t := 62) ?hr ?_; (case hd => rfl); (case hg => rfl); (case hr => first | (go_simp; done) | (go_simp; rfl)); intro gb166 hg w20 hbox hb; have n0_ := Aside0.mk (Kd.R_below (by (with_reducible repeat (first | apply Kd.R_alloc | apply Kd.R_drewN | apply Kd.R_drew)); exact (Kd.R_mono (Kd.R_far (p := ⟨gb164, 3, none⟩) (Kd.R_far (p := ⟨gb164, 2, none⟩) (Kd.R_far (p := ⟨gb164, 1, none⟩) (Kd.R_far (p := ⟨gb164, 0, none⟩) (Kd.R_types HO_3.out BK164.out (by decide)) (fun _ hk => hk.2) (.int .i64 ((rd_T62 t159 (ji12)).f0))) (fun _ hk => hk.2) (.int .i64 ((rd_T62 t159 (ji12)).f1))) (fun _ hk => hk.2) (.int .i64 ((rd_T62 t159 (ji12)).f2.f0))) (fun _ hk => hk.2) (.int .i64 ((rd_T62 t159 (ji12)).f2.f1))) (fun _ h_ => h_.1))) hb); have n1_ := Aside0.mk (Kd.R_below (Kd.R_elderB (by (with_reducible repeat (first | apply Kd.R_alloc | apply Kd.R_drewN | apply Kd.R_drew)); exact (Kd.R_mono (Kd.R_far (p := ⟨gb164, 3, none⟩) (Kd.R_far (p := ⟨gb164, 2, none⟩) (Kd.R_far (p := ⟨gb164, 1, none⟩) (Kd.R_far (p := ⟨gb164, 0, none⟩) (Kd.R_mono HO_4.out (fun k_ hk => (⟨hk, hk.2⟩ : _ ∧ k_ ≠ gb164))) (fun _ hk => hk.2) (.int .i64 ((rd_T62 t159 (ji12)).f0))) (fun _ hk => hk.2) (.int .i64 ((rd_T62 t159 (ji12)).f1))) (fun _ hk => hk.2) (.int .i64 ((rd_T62 t159 (ji12)).f2.f0))) (fun _ hk => hk.2) (.int .i64 ((rd_T62 t159 (ji12)).f2.f1))) (fun _ h_ => h_.1))) gb166 (Nat.le_of_eq hg.symm)) hb); have n2_ := Aside0.mk (blk_below (g := gb164) (o := .cells #[.int .i64 ((rd_T62 t159 (ji12)).f0), .int .i64 ((rd_T62 t159 (ji12)).f1), .int .i64 ((rd_T62 t159 (ji12)).f2.f0), .int .i64 ((rd_T62 t159 (ji12)).f2.f1)] 62 (0, 0)) (by (with_reducible repeat (first | refine blk_drewN ?_ _ | refine blk_drew ?_ | refine blk_alloc ?_ _)); refine blk_put (cs := #[.int .i64 ((rd_T62 t159 (ji12)).f0), .int .i64 ((rd_T62 t159 (ji12)).f1), .int .i64 ((rd_T62 t159 (ji12)).f2.f0), .int .i64 0]) ?_ 3 _ rfl; (with_reducible repeat (first | refine blk_drewN ?_ _ | refine blk_drew ?_ | refine blk_alloc ?_ _)); refine blk_put (cs := #[.int .i64 ((rd_T62 t159 (ji12)).f0), .int .i64 ((rd_T62 t159 (ji12)).f1), .int .i64 0, .int .i64 0]) ?_ 2 _ rfl; (with_reducible repeat (first | refine blk_drewN ?_ _ | refine blk_drew ?_ | refine blk_alloc ?_ _)); refine blk_put (cs := #[.int .i64 ((rd_T62 t159 (ji12)).f0), .int .i64 0, .int .i64 0, .int .i64 0]) ?_ 1 _ rfl; (with_reducible repeat (first | refine blk_drewN ?_ _ | refine blk_drew ?_ | refine blk_alloc ?_ _)); refine blk_put (cs := #[.int .i64 0, .int .i64 0, .int .i64 0, .int .i64 0]) ?_ 0 _ rfl; (with_reducible repeat (first | refine blk_drewN ?_ _ | refine blk_drew ?_ | refine blk_alloc ?_ _)); exact BK164.out) hb); have n3_ := Aside0.mk (below_step (by repeat (first | (with_reducible first | exact HB.out | apply below_alloc | apply pw_below_drewN | apply below_drew1 | refine below_set ?_ GE164.out) | exact HB.out)) hb); have n4_ := Aside0.mk (hbox); have n5_ := Aside0.mk ((by rw [hg]; exact (below_size (by repeat (first | (with_reducible first | exact HB.out | apply below_alloc | apply pw_below_drewN | apply below_drew1 | refine below_set ?_ GE164.out) | exact HB.out))) : w.heap.size ≤ gb166)); have n6_ := Aside0.mk ((by rw [hg]; exact (below_size (by repeat (first | (with_reducible first | exact HB.out | apply below_alloc | apply pw_below_drewN | apply below_drew1 | refine below_set ?_ GE164.out) | exact HB.out))) : w.heap.size ≤ gb166)); have n7_ := Aside0.mk ((by rw [hg]; exact Nat.ne_of_lt (blk_lt (g := gb164) (o := .cells #[.int .i64 ((rd_T62 t159 (ji12)).f0), .int .i64 ((rd_T62 t159 (ji12)).f1), .int .i64 ((rd_T62 t159 (ji12)).f2.f0), .int .i64 ((rd_T62 t159 (ji12)).f2.f1)] 62 (0, 0)) (by (with_reducible repeat (first | refine blk_drewN ?_ _ | refine blk_drew ?_ | refine blk_alloc ?_ _)); refine blk_put (cs := #[.int .i64 ((rd_T62 t159 (ji12)).f0), .int .i64 ((rd_T62 t159 (ji12)).f1), .int .i64 ((rd_T62 t159 (ji12)).f2.f0), .int .i64 0]) ?_ 3 _ rfl; (with_reducible repeat (first | refine blk_drewN ?_ _ | refine blk_drew ?_ | refine blk_alloc ?_ _)); refine blk_put (cs := #[.int .i64 ((rd_T62 t159 (ji12)).f0), .int .i64 ((rd_T62 t159 (ji12)).f1), .int .i64 0, .int .i64 0]) ?_ 2 _ rfl; (with_reducible repeat (first | refine blk_drewN ?_ _ | refine blk_drew ?_ | refine blk_alloc ?_ _)); refine blk_put (cs := #[.int .i64 ((rd_T62 t159 (ji12)).f0), .int .i64 0, .int .i64 0, .int .i64 0]) ?_ 1 _ rfl; (with_reducible repeat (first | refine blk_drewN ?_ _ | refine blk_drew ?_ | refine blk_alloc ?_ _)); refine blk_put (cs := #[.int .i64 0, .int .i64 0, .int .i64 0, .int .i64 0]) ?_ 0 _ rfl; (with_reducible repeat (first | refine blk_drewN ?_ _ | refine blk_drew ?_ | refine blk_alloc ?_ _)); exact BK164.out)) : gb164 ≠ gb166)); have n8_ := Aside0.mk ((by rw [hg]; exact Nat.ne_of_gt (blk_lt (g := gb164) (o := .cells #[.int .i64 ((rd_T62 t159 (ji12)).f0), .int .i64 ((rd_T62 t159 (ji12)).f1), .int .i64 ((rd_T62 t159 (ji12)).f2.f0), .int .i64 ((rd_T62 t159 (ji12)).f2.f1)] 62 (0, 0)) (by (with_reducible repeat (first | refine blk_drewN ?_ _ | refine blk_drew ?_ | refine blk_alloc ?_ _)); refine blk_put (cs := #[.int .i64 ((rd_T62 t159 (ji12)).f0), .int .i64 ((rd_T62 t159 (ji12)).f1), .int .i64 ((rd_T62 t159 (ji12)).f2.f0), .int .i64 0]) ?_ 3 _ rfl; (with_reducible repeat (first | refine blk_drewN ?_ _ | refine blk_drew ?_ | refine blk_alloc ?_ _)); refine blk_put (cs := #[.int .i64 ((rd_T62 t159 (ji12)).f0), .int .i64 ((rd_T62 t159 (ji12)).f1), .int .i64 0, .int .i64 0]) ?_ 2 _ rfl; (with_reducible repeat (first | refine blk_drewN ?_ _ | refine blk_drew ?_ | refine blk_alloc ?_ _)); refine blk_put (cs := #[.int .i64 ((rd_T62 t159 (ji12)).f0), .int .i64 0, .int .i64 0, .int .i64 0]) ?_ 1 _ rfl; (with_reducible repeat (first | refine blk_drewN ?_ _ | refine blk_drew ?_ | refine blk_alloc ?_ _)); refine blk_put (cs := #[.int .i64 0, .int .i64 0, .int .i64 0, .int .i64 0]) ?_ 0 _ rfl; (with_reducible repeat (first | refine blk_drewN ?_ _ | refine blk_drew ?_ | refine blk_alloc ?_ _)); exact BK164.out)) : gb166 ≠ gb164)); clear HO_3; clear HO_4; clear BK164; clear HB; have HO_3 := n0_; have HO_4 := n1_; have BK164 := n2_; have HB := n3_; have BK166 := n4_; have GW166 := n5_; have GE166 := n6_; have NB164_166 := n7_; have NB166_164 := n8_; clear n0_ n1_ n2_ n3_ n4_ n5_ n6_ n7_ n8_; clear hb hbox hg; have hnb21 := NB166_164.out; have hnc21 := NB164_166.out; have hcz22_0 : w20.cell? ⟨gb166, 0, none⟩ = some (.int .i64 0) := (blk_cell BK166.out 0).trans rfl; have hcz22_1 : w20.cell? ⟨gb166, 1, none⟩ = some (.int .i64 0) := (blk_cell BK166.out 1).trans rfl; have hcz22_2 : w20.cell? ⟨gb166, 2, none⟩ = some (.int .i64 0) := (blk_cell BK166.out 2).trans rfl; have hcz22_3 : w20.cell? ⟨gb166, 3, none⟩ = some (.int .i64 0) := (blk_cell BK166.out 3).trans rfl; have hfz22_0 := blk_frozen BK166.out 0; have hfz22_1 := blk_frozen BK166.out 1; have hfz22_2 := blk_frozen BK166.out 2; have hfz22_3 := blk_frozen BK166.out 3)))
                  (try simp only [Act.put, List.setIfInBounds_toArray, List.set_cons_zero, List.set_cons_succ])
                  go_cut [51] (fun v51 wc => ∃ (kq : Nat) (x51_15 : Bool), v51 = .bool x51_15 ∧ Aside0 (dialtonelaw14_LifeQuarantine.j1 kq t156 t159 x6_1 x51_15 ((rd_T62 t159 (ji12)).f0) ((rd_T62 t159 (ji12)).f1) ((rd_T62 t159 (ji12)).f2.f0) ((rd_T62 t159 (ji12)).f2.f1) ((rd_T62 t159 x6_1).f0) ((rd_T62 t159 x6_1).f1) ((rd_T62 t159 x6_1).f2.f0) ((rd_T62 t159 x6_1).f2.f1) = some r) ∧ Aside0 (kq ≤ k1) ∧ Aside0 (Kd.R k54 54 wc w.heap.size (fun _ => True) (.slice Ao9 t156.length co9) t156) ∧ Aside0 (Kd.R k62 62 wc w.heap.size (fun k_ => k_ ≠ gb164 ∧ k_ ≠ gb166) (.slice (some ad163) t159.length co17) t159) ∧ Aside0 (wc.heap[gb164]? = some (.cells #[.int .i64 ((rd_T62 t159 (ji12)).f0), .int .i64 ((rd_T62 t159 (ji12)).f1), .int .i64 ((rd_T62 t159 (ji12)).f2.f0), .int .i64 ((rd_T62 t159 (ji12)).f2.f1)] 62 (0, 0))) ∧ Aside0 (wc.heap[gb166]? = some (.cells #[.int .i64 ((rd_T62 t159 x6_1).f0), .int .i64 ((rd_T62 t159 x6_1).f1), .int .i64 ((rd_T62 t159 x6_1).f2.f0), .int .i64 ((rd_T62 t159 x6_1).f2.f1)] 62 (0, 0))) ∧ Aside0 (Below w.heap.size w wc))
                  case first =>
                    have H := HC16.out
                    clear HC16
                    by_cases c23 : ((rd_T62 t159 (ji12)).f1) = ((rd_T62 t159 x6_1).f1)
                    · rw [if_pos c23] at H
                      have c23b0 : (((rd_T62 t159 (ji12)).f1) == ((rd_T62 t159 x6_1).f1)) = true := beq_iff_eq.mpr c23
                      have c23b1 : (((rd_T62 t159 (ji12)).f1) != ((rd_T62 t159 x6_1).f1)) = false := bne_eq_false_iff_eq.mpr c23
                      clear c23
                      (first | rw [c23b0] | (simp only [i64_w, i32_w]; rw [c23b0]) | rw [c23b1] | skip)
                      have H' := Aside0.mk H
                      clear H
                      have hnb24 := NB164_166.out
                      have hnc24 := NB166_164.out
                      have hcz25_0 : w20.cell? ⟨gb164, 0, none⟩ = some (.int .i64 ((rd_T62 t159 (ji12)).f0)) := (blk_cell BK164.out 0).trans rfl
                      have hcz25_1 : w20.cell? ⟨gb164, 1, none⟩ = some (.int .i64 ((rd_T62 t159 (ji12)).f1)) := (blk_cell BK164.out 1).trans rfl
                      have hcz25_2 : w20.cell? ⟨gb164, 2, none⟩ = some (.int .i64 ((rd_T62 t159 (ji12)).f2.f0)) := (blk_cell BK164.out 2).trans rfl
                      have hcz25_3 : w20.cell? ⟨gb164, 3, none⟩ = some (.int .i64 ((rd_T62 t159 (ji12)).f2.f1)) := (blk_cell BK164.out 3).trans rfl
                      have hfz25_0 := blk_frozen BK164.out 0
                      have hfz25_1 := blk_frozen BK164.out 1
                      have hfz25_2 := blk_frozen BK164.out 2
                      have hfz25_3 := blk_frozen BK164.out 3
                      have hcz26_0 : w20.cell? ⟨gb166, 0, none⟩ = some (.int .i64 0) := (blk_cell BK166.out 0).trans rfl
                      have hcz26_1 : w20.cell? ⟨gb166, 1, none⟩ = some (.int .i64 0) := (blk_cell BK166.out 1).trans rfl
                      have hcz26_2 : w20.cell? ⟨gb166, 2, none⟩ = some (.int .i64 0) := (blk_cell BK166.out 2).trans rfl
                      have hcz26_3 : w20.cell? ⟨gb166, 3, none⟩ = some (.int .i64 0) := (blk_cell BK166.out 3).trans rfl
                      have hfz26_0 := blk_frozen BK166.out 0
                      have hfz26_1 := blk_frozen BK166.out 1
                      have hfz26_2 := blk_frozen BK166.out 2
                      have hfz26_3 := blk_frozen BK166.out 3
                      go_wp2
                      repeat (go_quiet (fail); try go_wp2)
                      go_meet
                      case rel => exact ⟨_, (true), (by first | rfl | (simp; done) | (simp [*]; done)), H', ⟨by have := HK1.out; first | omega | exact Nat.le_refl _⟩, ⟨by (with_reducible repeat (first | apply Kd.R_alloc | apply Kd.R_drewN | apply Kd.R_drew)); exact Kd.R_mono (Kd.R_far (p := ⟨gb166, 3, none⟩) (Kd.R_far (p := ⟨gb166, 2, none⟩) (Kd.R_far (p := ⟨gb166, 1, none⟩) (Kd.R_far (p := ⟨gb166, 0, none⟩) (Kd.R_types HO_3.out BK166.out (by decide)) (fun _ hk => hk.2) (.int .i64 ((rd_T62 t159 x6_1).f0))) (fun _ hk => hk.2) (.int .i64 ((rd_T62 t159 x6_1).f1))) (fun _ hk => hk.2) (.int .i64 ((rd_T62 t159 x6_1).f2.f0))) (fun _ hk => hk.2) (.int .i64 ((rd_T62 t159 x6_1).f2.f1))) (fun _ hk => trivial)⟩, ⟨by (with_reducible repeat (first | apply Kd.R_alloc | apply Kd.R_drewN | apply Kd.R_drew)); exact Kd.R_mono (Kd.R_far (p := ⟨gb166, 3, none⟩) (Kd.R_far (p := ⟨gb166, 2, none⟩) (Kd.R_far (p := ⟨gb166, 1, none⟩) (Kd.R_far (p := ⟨gb166, 0, none⟩) (Kd.R_mono HO_4.out (fun k_ hk => (⟨hk, hk.2⟩ : _ ∧ k_ ≠ gb166))) (fun _ hk => hk.2) (.int .i64 ((rd_T62 t159 x6_1).f0))) (fun _ hk => hk.2) (.int .i64 ((rd_T62 t159 x6_1).f1))) (fun _ hk => hk.2) (.int .i64 ((rd_T62 t159 x6_1).f2.f0))) (fun _ hk => hk.2) (.int .i64 ((rd_T62 t159 x6_1).f2.f1))) (fun _ hk => ⟨hk.1.1.2, hk.1.2⟩)⟩, ⟨by (with_reducible repeat (first | refine blk_drewN ?_ _ | refine blk_drew ?_ | refine blk_alloc ?_ _)); refine blk_far ?_ NB164_166.out _; (with_reducible repeat (first | refine blk_drewN ?_ _ | refine blk_drew ?_ | refine blk_alloc ?_ _)); refine blk_far ?_ NB164_166.out _; (with_reducible repeat (first | refine blk_drewN ?_ _ | refine blk_drew ?_ | refine blk_alloc ?_ _)); refine blk_far ?_ NB164_166.out _; (with_reducible repeat (first | refine blk_drewN ?_ _ | refine blk_drew ?_ | refine blk_alloc ?_ _)); refine blk_far ?_ NB164_166.out _; (with_reducible repeat (first | refine blk_drewN ?_ _ | refine blk_drew ?_ | refine blk_alloc ?_ _)); exact BK164.out⟩, ⟨by (with_reducible repeat (first | refine blk_drewN ?_ _ | refine blk_drew ?_ | refine blk_alloc ?_ _)); refine blk_put (cs := #[.int .i64 ((rd_T62 t159 x6_1).f0), .int .i64 ((rd_T62 t159 x6_1).f1), .int .i64 ((rd_T62 t159 x6_1).f2.f0), .int .i64 0]) ?_ 3 _ rfl; (with_reducible repeat (first | refine blk_drewN ?_ _ | refine blk_drew ?_ | refine blk_alloc ?_ _)); refine blk_put (cs := #[.int .i64 ((rd_T62 t159 x6_1).f0), .int .i64 ((rd_T62 t159 x6_1).f1), .int .i64 0, .int .i64 0]) ?_ 2 _ rfl; (with_reducible repeat (first | refine blk_drewN ?_ _ | refine blk_drew ?_ | refine blk_alloc ?_ _)); refine blk_put (cs := #[.int .i64 ((rd_T62 t159 x6_1).f0), .int .i64 0, .int .i64 0, .int .i64 0]) ?_ 1 _ rfl; (with_reducible repeat (first | refine blk_drewN ?_ _ | refine blk_drew ?_ | refine blk_alloc ?_ _)); refine blk_put (cs := #[.int .i64 0, .int .i64 0, .int .i64 0, .int .i64 0]) ?_ 0 _ rfl; (with_reducible repeat (first | refine blk_drewN ?_ _ | refine blk_drew ?_ | refine blk_alloc ?_ _)); exact BK166.out⟩, ⟨by repeat (first | (with_reducible first | exact HB.out | apply below_alloc | apply pw_below_drewN | apply below_drew1 | refine below_set ?_ GE164.out | refine below_set ?_ GE166.out) | exact HB.out)⟩⟩
                    · rw [if_neg c23] at H
                      have c23b0 : (((rd_T62 t159 (ji12)).f1) == ((rd_T62 t159 x6_1).f1)) = false := beq_eq_false_iff_ne.mpr c23
                      have c23b1 : (((rd_T62 t159 (ji12)).f1) != ((rd_T62 t159 x6_1).f1)) = true := bne_iff_ne.mpr c23
                      (first | rw [c23b0] | (simp only [i64_w, i32_w]; rw [c23b0]) | rw [c23b1] | skip)
                      have H' := Aside0.mk H
                      clear H
                      have hnb27 := NB164_166.out
                      have hnc27 := NB166_164.out
                      have hcz28_0 : w20.cell? ⟨gb164, 0, none⟩ = some (.int .i64 ((rd_T62 t159 (ji12)).f0)) := (blk_cell BK164.out 0).trans rfl
                      have hcz28_1 : w20.cell? ⟨gb164, 1, none⟩ = some (.int .i64 ((rd_T62 t159 (ji12)).f1)) := (blk_cell BK164.out 1).trans rfl
                      have hcz28_2 : w20.cell? ⟨gb164, 2, none⟩ = some (.int .i64 ((rd_T62 t159 (ji12)).f2.f0)) := (blk_cell BK164.out 2).trans rfl
                      have hcz28_3 : w20.cell? ⟨gb164, 3, none⟩ = some (.int .i64 ((rd_T62 t159 (ji12)).f2.f1)) := (blk_cell BK164.out 3).trans rfl
                      have hfz28_0 := blk_frozen BK164.out 0
                      have hfz28_1 := blk_frozen BK164.out 1
                      have hfz28_2 := blk_frozen BK164.out 2
                      have hfz28_3 := blk_frozen BK164.out 3
                      have hcz29_0 : w20.cell? ⟨gb166, 0, none⟩ = some (.int .i64 0) := (blk_cell BK166.out 0).trans rfl
                      have hcz29_1 : w20.cell? ⟨gb166, 1, none⟩ = some (.int .i64 0) := (blk_cell BK166.out 1).trans rfl
                      have hcz29_2 : w20.cell? ⟨gb166, 2, none⟩ = some (.int .i64 0) := (blk_cell BK166.out 2).trans rfl
                      have hcz29_3 : w20.cell? ⟨gb166, 3, none⟩ = some (.int .i64 0) := (blk_cell BK166.out 3).trans rfl
                      have hfz29_0 := blk_frozen BK166.out 0
                      have hfz29_1 := blk_frozen BK166.out 1
                      have hfz29_2 := blk_frozen BK166.out 2
                      have hfz29_3 := blk_frozen BK166.out 3
                      go_wp2
                      repeat (go_quiet (fail); try go_wp2)
                      go_meet
                      case rel => exact ⟨_, (decide ((wrap64 (((rd_T62 t159 x6_1).f2.f0) - ((rd_T62 t159 (ji12)).f2.f1))) ≥ 2592000)), (by first | rfl | (simp; done) | (simp only [← hji12] <;> (first | rfl | simp)) | (simp [*]; done)), H', ⟨by have := HK1.out; first | omega | exact Nat.le_refl _⟩, ⟨by (with_reducible repeat (first | apply Kd.R_alloc | apply Kd.R_drewN | apply Kd.R_drew)); exact Kd.R_mono (Kd.R_far (p := ⟨gb166, 3, none⟩) (Kd.R_far (p := ⟨gb166, 2, none⟩) (Kd.R_far (p := ⟨gb166, 1, none⟩) (Kd.R_far (p := ⟨gb166, 0, none⟩) (Kd.R_types HO_3.out BK166.out (by decide)) (fun _ hk => hk.2) (.int .i64 ((rd_T62 t159 x6_1).f0))) (fun _ hk => hk.2) (.int .i64 ((rd_T62 t159 x6_1).f1))) (fun _ hk => hk.2) (.int .i64 ((rd_T62 t159 x6_1).f2.f0))) (fun _ hk => hk.2) (.int .i64 ((rd_T62 t159 x6_1).f2.f1))) (fun _ hk => trivial)⟩, ⟨by (with_reducible repeat (first | apply Kd.R_alloc | apply Kd.R_drewN | apply Kd.R_drew)); exact Kd.R_mono (Kd.R_far (p := ⟨gb166, 3, none⟩) (Kd.R_far (p := ⟨gb166, 2, none⟩) (Kd.R_far (p := ⟨gb166, 1, none⟩) (Kd.R_far (p := ⟨gb166, 0, none⟩) (Kd.R_mono HO_4.out (fun k_ hk => (⟨hk, hk.2⟩ : _ ∧ k_ ≠ gb166))) (fun _ hk => hk.2) (.int .i64 ((rd_T62 t159 x6_1).f0))) (fun _ hk => hk.2) (.int .i64 ((rd_T62 t159 x6_1).f1))) (fun _ hk => hk.2) (.int .i64 ((rd_T62 t159 x6_1).f2.f0))) (fun _ hk => hk.2) (.int .i64 ((rd_T62 t159 x6_1).f2.f1))) (fun _ hk => ⟨hk.1.1.2, hk.1.2⟩)⟩, ⟨by (with_reducible repeat (first | refine blk_drewN ?_ _ | refine blk_drew ?_ | refine blk_alloc ?_ _)); refine blk_far ?_ NB164_166.out _; (with_reducible repeat (first | refine blk_drewN ?_ _ | refine blk_drew ?_ | refine blk_alloc ?_ _)); refine blk_far ?_ NB164_166.out _; (with_reducible repeat (first | refine blk_drewN ?_ _ | refine blk_drew ?_ | refine blk_alloc ?_ _)); refine blk_far ?_ NB164_166.out _; (with_reducible repeat (first | refine blk_drewN ?_ _ | refine blk_drew ?_ | refine blk_alloc ?_ _)); refine blk_far ?_ NB164_166.out _; (with_reducible repeat (first | refine blk_drewN ?_ _ | refine blk_drew ?_ | refine blk_alloc ?_ _)); exact BK164.out⟩, ⟨by (with_reducible repeat (first | refine blk_drewN ?_ _ | refine blk_drew ?_ | refine blk_alloc ?_ _)); refine blk_put (cs := #[.int .i64 ((rd_T62 t159 x6_1).f0), .int .i64 ((rd_T62 t159 x6_1).f1), .int .i64 ((rd_T62 t159 x6_1).f2.f0), .int .i64 0]) ?_ 3 _ rfl; (with_reducible repeat (first | refine blk_drewN ?_ _ | refine blk_drew ?_ | refine blk_alloc ?_ _)); refine blk_put (cs := #[.int .i64 ((rd_T62 t159 x6_1).f0), .int .i64 ((rd_T62 t159 x6_1).f1), .int .i64 0, .int .i64 0]) ?_ 2 _ rfl; (with_reducible repeat (first | refine blk_drewN ?_ _ | refine blk_drew ?_ | refine blk_alloc ?_ _)); refine blk_put (cs := #[.int .i64 ((rd_T62 t159 x6_1).f0), .int .i64 0, .int .i64 0, .int .i64 0]) ?_ 1 _ rfl; (with_reducible repeat (first | refine blk_drewN ?_ _ | refine blk_drew ?_ | refine blk_alloc ?_ _)); refine blk_put (cs := #[.int .i64 0, .int .i64 0, .int .i64 0, .int .i64 0]) ?_ 0 _ rfl; (with_reducible repeat (first | refine blk_drewN ?_ _ | refine blk_drew ?_ | refine blk_alloc ?_ _)); exact BK166.out⟩, ⟨by repeat (first | (with_reducible first | exact HB.out | apply below_alloc | apply pw_below_drewN | apply below_drew1 | refine below_set ?_ GE164.out | refine below_set ?_ GE166.out) | exact HB.out)⟩⟩
                  case rest =>
                    clear HC16
                    try clear c1
                    try clear p1
                    try clear q1
                    try clear hx1
                    try clear c2
                    try clear p2
                    try clear c3
                    try clear c6
                    try clear c6b0
                    try clear c6b1
                    try clear p6
                    try clear c11
                    try clear c11b0
                    try clear c13
                    try clear c13b0
                    try clear c14
                    try clear c14b0
                    try clear c15
                    try clear c15b0
                    try clear p16
                    try clear q16
                    try clear hx16
                    try clear c21
                    try clear c23
                    try clear c23b0
                    try clear c23b1
                    try clear c24
                    try clear c27
                    try clear hcz19_0
                    try clear hcz19_1
                    try clear hcz19_2
                    try clear hcz19_3
                    try clear hcz22_0
                    try clear hcz22_1
                    try clear hcz22_2
                    try clear hcz22_3
                    try clear hcz25_0
                    try clear hcz25_1
                    try clear hcz25_2
                    try clear hcz25_3
                    try clear hcz26_0
                    try clear hcz26_1
                    try clear hcz26_2
                    try clear hcz26_3
                    try clear hcz28_0
                    try clear hcz28_1
                    try clear hcz28_2
                    try clear hcz28_3
                    try clear hcz29_0
                    try clear hcz29_1
                    try clear hcz29_2
                    try clear hcz29_3
                    try clear hfz19_0
                    try clear hfz19_1
                    try clear hfz19_2
                    try clear hfz19_3
                    try clear hfz22_0
                    try clear hfz22_1
                    try clear hfz22_2
                    try clear hfz22_3
                    try clear hfz25_0
                    try clear hfz25_1
                    try clear hfz25_2
                    try clear hfz25_3
                    try clear hfz26_0
                    try clear hfz26_1
                    try clear hfz26_2
                    try clear hfz26_3
                    try clear hfz28_0
                    try clear hfz28_1
                    try clear hfz28_2
                    try clear hfz28_3
                    try clear hfz29_0
                    try clear hfz29_1
                    try clear hfz29_2
                    try clear hfz29_3
                    try clear hx163_0
                    try clear hx163_1
                    try clear hx163_2
                    try clear hx163_3
                    try clear hx165_0
                    try clear hx165_1
                    try clear hx165_2
                    try clear hx165_3
                    try clear p163
                    try clear p165
                    try clear p2
                    try clear q163
                    try clear q165
                    obtain ⟨kq, x51_15, rfl, HA, HJ15, HO_3, HO_4, BK164, BK166, HB⟩ := hcut
                    cases kq with
                    | zero => exact absurd HA.out (by simp [dialtonelaw14_LifeQuarantine.j1])
                    | succ kj15 =>
                      have H := HA.out
                      clear HA
                      simp only [dialtonelaw14_LifeQuarantine.j1] at H
                      by_cases c30 : x51_15 = true
                      · subst c30
                        have H1 : (dialtonelaw14_LifeQuarantine.l0 kj15 t156 t159 (wrap64 (x6_1 + 1))) = some r := by rw [if_pos rfl] at H; exact H
                        clear H
                        have H := H1
                        clear H1
                        have H' := Aside0.mk H
                        clear H
                        go_wp2
                        repeat (go_quiet (fail); try go_wp2)
                        go_roundg kj15
                        case measure => have := HK1.out; have := HJ15.out; omega
                        case rel => exact ⟨(wrap64 (x6_1 + 1)), (by first | rfl | (simp; done) | (simp [*]; done)), H', ⟨by have := HK1.out; have := HJ15.out; omega⟩, ⟨by (with_reducible repeat (first | apply Kd.R_alloc | apply Kd.R_drewN | apply Kd.R_drew)); exact HO_3.out⟩, ⟨by (with_reducible repeat (first | apply Kd.R_alloc | apply Kd.R_drewN | apply Kd.R_drew)); exact Kd.R_mono HO_4.out (fun _ hk => trivial)⟩, ⟨by repeat (first | (with_reducible first | exact HB.out | apply below_alloc | apply pw_below_drewN | apply below_drew1 | refine below_set ?_ GE164.out | refine below_set ?_ GE166.out) | exact HB.out)⟩⟩
                      · replace c30 := Bool.eq_false_iff.mpr c30
                        subst c30
                        have H1 : (dialtonelaw14_LifeQuarantine.l1 kj15 t156 t159 x6_1 false 0 ((rd_T62 t159 (ji12)).f0) ((rd_T62 t159 (ji12)).f1) ((rd_T62 t159 (ji12)).f2.f0) ((rd_T62 t159 (ji12)).f2.f1) ((rd_T62 t159 x6_1).f0) ((rd_T62 t159 x6_1).f1) ((rd_T62 t159 x6_1).f2.f0) ((rd_T62 t159 x6_1).f2.f1)) = some r := by rw [if_neg (show ¬ (false = true) by decide)] at H; exact H
                        clear H
                        have H := H1
                        clear H1
                        have H' := Aside0.mk H
                        clear H
                        go_wp2
                        repeat (go_quiet (fail); try go_wp2)
                        go_loopg [9, 10] kj15 (fun kq v9 v10 w' => ∃ (x9_3 : Bool) (x10_3 : Int), v9 = .bool x9_3 ∧ v10 = .int .i64 x10_3 ∧ Aside0 (dialtonelaw14_LifeQuarantine.l1 kq t156 t159 x6_1 x9_3 x10_3 ((rd_T62 t159 (ji12)).f0) ((rd_T62 t159 (ji12)).f1) ((rd_T62 t159 (ji12)).f2.f0) ((rd_T62 t159 (ji12)).f2.f1) ((rd_T62 t159 x6_1).f0) ((rd_T62 t159 x6_1).f1) ((rd_T62 t159 x6_1).f2.f0) ((rd_T62 t159 x6_1).f2.f1) = some r) ∧ Aside0 (kq ≤ kj15) ∧ Aside0 (Kd.R k54 54 w' w.heap.size (fun _ => True) (.slice Ao9 t156.length co9) t156) ∧ Aside0 (Kd.R k62 62 w' w.heap.size (fun k_ => k_ ≠ gb164 ∧ k_ ≠ gb166) (.slice (some ad163) t159.length co17) t159) ∧ Aside0 (w'.heap[gb164]? = some (.cells #[.int .i64 ((rd_T62 t159 (ji12)).f0), .int .i64 ((rd_T62 t159 (ji12)).f1), .int .i64 ((rd_T62 t159 (ji12)).f2.f0), .int .i64 ((rd_T62 t159 (ji12)).f2.f1)] 62 (0, 0))) ∧ Aside0 (w'.heap[gb166]? = some (.cells #[.int .i64 ((rd_T62 t159 x6_1).f0), .int .i64 ((rd_T62 t159 x6_1).f1), .int .i64 ((rd_T62 t159 x6_1).f2.f0), .int .i64 ((rd_T62 t159 x6_1).f2.f1)] 62 (0, 0))) ∧ Aside0 (Below w.heap.size w w'))
                        case atStart => exact ⟨(false), (0), (by first | rfl | (simp; done) | (simp [*]; done)), (by first | rfl | (simp; done) | (simp [*]; done)), H', ⟨Nat.le_refl _⟩, ⟨by (with_reducible repeat (first | apply Kd.R_alloc | apply Kd.R_drewN | apply Kd.R_drew)); exact HO_3.out⟩, ⟨by (with_reducible repeat (first | apply Kd.R_alloc | apply Kd.R_drewN | apply Kd.R_drew)); exact HO_4.out⟩, ⟨by (with_reducible repeat (first | refine blk_drewN ?_ _ | refine blk_drew ?_ | refine blk_alloc ?_ _)); exact BK164.out⟩, ⟨by (with_reducible repeat (first | refine blk_drewN ?_ _ | refine blk_drew ?_ | refine blk_alloc ?_ _)); exact BK166.out⟩, ⟨by repeat (first | (with_reducible first | exact HB.out | apply below_alloc | apply pw_below_drewN | apply below_drew1 | refine below_set ?_ GE164.out | refine below_set ?_ GE166.out) | exact HB.out)⟩⟩
                        case round =>
                          clear H'
                          try clear c1
                          try clear p1
                          try clear q1
                          try clear hx1
                          try clear c2
                          try clear p2
                          try clear c3
                          try clear c6
                          try clear c6b0
                          try clear c6b1
                          try clear p6
                          try clear c11
                          try clear c11b0
                          try clear c13
                          try clear c13b0
                          try clear c14
                          try clear c14b0
                          try clear c15
                          try clear c15b0
                          try clear p16
                          try clear q16
                          try clear hx16
                          try clear c21
                          try clear c23
                          try clear c23b0
                          try clear c23b1
                          try clear c24
                          try clear c27
                          try clear c30
                          try clear hcz19_0
                          try clear hcz19_1
                          try clear hcz19_2
                          try clear hcz19_3
                          try clear hcz22_0
                          try clear hcz22_1
                          try clear hcz22_2
                          try clear hcz22_3
                          try clear hcz25_0
                          try clear hcz25_1
                          try clear hcz25_2
                          try clear hcz25_3
                          try clear hcz26_0
                          try clear hcz26_1
                          try clear hcz26_2
                          try clear hcz26_3
                          try clear hcz28_0
                          try clear hcz28_1
                          try clear hcz28_2
                          try clear hcz28_3
                          try clear hcz29_0
                          try clear hcz29_1
                          try clear hcz29_2
                          try clear hcz29_3
                          try clear hfz19_0
                          try clear hfz19_1
                          try clear hfz19_2
                          try clear hfz19_3
                          try clear hfz22_0
                          try clear hfz22_1
                          try clear hfz22_2
                          try clear hfz22_3
                          try clear hfz25_0
                          try clear hfz25_1
                          try clear hfz25_2
                          try clear hfz25_3
                          try clear hfz26_0
                          try clear hfz26_1
                          try clear hfz26_2
                          try clear hfz26_3
                          try clear hfz28_0
                          try clear hfz28_1
                          try clear hfz28_2
                          try clear hfz28_3
                          try clear hfz29_0
                          try clear hfz29_1
                          try clear hfz29_2
                          try clear hfz29_3
                          try clear hx163_0
                          try clear hx163_1
                          try clear hx163_2
                          try clear hx163_3
                          try clear hx165_0
                          try clear hx165_1
                          try clear hx165_2
                          try clear hx165_3
                          try clear p1
                          try clear p16
                          try clear p163
                          try clear p165
                          try clear p2
                          try clear p6
                          try clear q1
                          try clear q16
                          try clear q163
                          try clear q165
                          obtain ⟨x9_3, x10_3, rfl, rfl, HA, HK3, HO_3, HO_4, BK164, BK166, HB⟩ := hrel
                          cases gk with
                          | zero => exact absurd HA.out (by simp [dialtonelaw14_LifeQuarantine.l1])
                          | succ k3 =>
                            have H := HA.out
                            clear HA
                            simp only [dialtonelaw14_LifeQuarantine.l1] at H
                            by_cases c31 : x10_3 < (t156.length : Int)
                            · rw [if_pos c31] at H
                              have c31b0 : decide (x10_3 < (t156.length : Int)) = true := decide_eq_true c31
                              clear c31
                              by_cases c32 : x9_3 = true
                              · subst c32
                                have H1 : (dialtonelaw14_LifeQuarantine.l1 k3 t156 t159 x6_1 true (wrap64 (x10_3 + 1)) ((rd_T62 t159 (ji12)).f0) ((rd_T62 t159 (ji12)).f1) ((rd_T62 t159 (ji12)).f2.f0) ((rd_T62 t159 (ji12)).f2.f1) ((rd_T62 t159 x6_1).f0) ((rd_T62 t159 x6_1).f1) ((rd_T62 t159 x6_1).f2.f0) ((rd_T62 t159 x6_1).f2.f1)) = some r := by rw [if_pos rfl] at H; exact H
                                clear H
                                have H := H1
                                clear H1
                                have H' := Aside0.mk H
                                clear H
                                go_wp2
                                repeat (go_quiet (fail); try go_wp2)
                                go_roundg k3
                                case measure => have := HK1.out; have := HJ15.out; have := HK3.out; omega
                                case rel => exact ⟨(true), (wrap64 (x10_3 + 1)), (by first | rfl | (simp; done) | (simp [*]; done)), (by first | rfl | (simp; done) | (simp [*]; done)), H', ⟨by have := HK1.out; have := HJ15.out; have := HK3.out; omega⟩, ⟨by (with_reducible repeat (first | apply Kd.R_alloc | apply Kd.R_drewN | apply Kd.R_drew)); exact HO_3.out⟩, ⟨by (with_reducible repeat (first | apply Kd.R_alloc | apply Kd.R_drewN | apply Kd.R_drew)); exact HO_4.out⟩, ⟨by (with_reducible repeat (first | refine blk_drewN ?_ _ | refine blk_drew ?_ | refine blk_alloc ?_ _)); exact BK164.out⟩, ⟨by (with_reducible repeat (first | refine blk_drewN ?_ _ | refine blk_drew ?_ | refine blk_alloc ?_ _)); exact BK166.out⟩, ⟨by repeat (first | (with_reducible first | exact HB.out | apply below_alloc | apply pw_below_drewN | apply below_drew1 | refine below_set ?_ GE164.out | refine below_set ?_ GE166.out) | exact HB.out)⟩⟩
                              · replace c32 := Bool.eq_false_iff.mpr c32
                                subst c32
                                have H1 : (if 0 ≤ x10_3 then (if ((rd_T54 t156 x10_3).f0) = 2 then (if ((rd_T62 t159 (ji12)).f2.f1) ≤ ((rd_T54 t156 x10_3).f1) then (dialtonelaw14_LifeQuarantine.l1 k3 t156 t159 x6_1 (decide (((rd_T54 t156 x10_3).f1) ≤ ((rd_T62 t159 x6_1).f2.f0))) (wrap64 (x10_3 + 1)) ((rd_T62 t159 (ji12)).f0) ((rd_T62 t159 (ji12)).f1) ((rd_T62 t159 (ji12)).f2.f0) ((rd_T62 t159 (ji12)).f2.f1) ((rd_T62 t159 x6_1).f0) ((rd_T62 t159 x6_1).f1) ((rd_T62 t159 x6_1).f2.f0) ((rd_T62 t159 x6_1).f2.f1)) else (dialtonelaw14_LifeQuarantine.l1 k3 t156 t159 x6_1 false (wrap64 (x10_3 + 1)) ((rd_T62 t159 (ji12)).f0) ((rd_T62 t159 (ji12)).f1) ((rd_T62 t159 (ji12)).f2.f0) ((rd_T62 t159 (ji12)).f2.f1) ((rd_T62 t159 x6_1).f0) ((rd_T62 t159 x6_1).f1) ((rd_T62 t159 x6_1).f2.f0) ((rd_T62 t159 x6_1).f2.f1))) else (dialtonelaw14_LifeQuarantine.l1 k3 t156 t159 x6_1 false (wrap64 (x10_3 + 1)) ((rd_T62 t159 (ji12)).f0) ((rd_T62 t159 (ji12)).f1) ((rd_T62 t159 (ji12)).f2.f0) ((rd_T62 t159 (ji12)).f2.f1) ((rd_T62 t159 x6_1).f0) ((rd_T62 t159 x6_1).f1) ((rd_T62 t159 x6_1).f2.f0) ((rd_T62 t159 x6_1).f2.f1))) else (none)) = some r := by rw [if_neg (show ¬ (false = true) by decide)] at H; exact H
                                clear H
                                have H := H1
                                clear H1
                                by_cases c33 : 0 ≤ x10_3
                                · rw [if_pos c33] at H
                                  have c33b0 : decide (0 ≤ x10_3) = true := decide_eq_true c33
                                  clear c33
                                  by_cases c34 : ((rd_T54 t156 x10_3).f0) = 2
                                  · rw [if_pos c34] at H
                                    have c34b0 : (((rd_T54 t156 x10_3).f0) == 2) = true := beq_iff_eq.mpr c34
                                    have c34b1 : (((rd_T54 t156 x10_3).f0) != 2) = false := bne_eq_false_iff_eq.mpr c34
                                    clear c34
                                    by_cases c35 : ((rd_T62 t159 (ji12)).f2.f1) ≤ ((rd_T54 t156 x10_3).f1)
                                    · rw [if_pos c35] at H
                                      have c35b0 : decide (((rd_T62 t159 (ji12)).f2.f1) ≤ ((rd_T54 t156 x10_3).f1)) = true := decide_eq_true c35
                                      clear c35
                                      have H' := Aside0.mk H
                                      clear H
                                      have p167 : 0 ≤ (x10_3 : Int) := of_decide_eq_true (by first | (with_reducible assumption) | assumption)
                                      have q167 : x10_3 < (t156.length : Int) := of_decide_eq_true (by first | (with_reducible assumption) | assumption)
                                      obtain ⟨ad167, e167, hx167_0, hx167_1, hx167_2⟩ := at_T54 (Kd.R_reads' HO_3.out).2.2 x10_3 p167 q167
                                      cases e167
                                      replace p167 := eq_true p167
                                      replace q167 := eq_true q167
                                      have hnb36 := NB164_166.out
                                      have hnc36 := NB166_164.out
                                      have hcz37_0 : wr.cell? ⟨gb164, 0, none⟩ = some (.int .i64 ((rd_T62 t159 (ji12)).f0)) := (blk_cell BK164.out 0).trans rfl
                                      have hcz37_1 : wr.cell? ⟨gb164, 1, none⟩ = some (.int .i64 ((rd_T62 t159 (ji12)).f1)) := (blk_cell BK164.out 1).trans rfl
                                      have hcz37_2 : wr.cell? ⟨gb164, 2, none⟩ = some (.int .i64 ((rd_T62 t159 (ji12)).f2.f0)) := (blk_cell BK164.out 2).trans rfl
                                      have hcz37_3 : wr.cell? ⟨gb164, 3, none⟩ = some (.int .i64 ((rd_T62 t159 (ji12)).f2.f1)) := (blk_cell BK164.out 3).trans rfl
                                      have hfz37_0 := blk_frozen BK164.out 0
                                      have hfz37_1 := blk_frozen BK164.out 1
                                      have hfz37_2 := blk_frozen BK164.out 2
                                      have hfz37_3 := blk_frozen BK164.out 3
                                      have p168 : 0 ≤ (x10_3 : Int) := of_decide_eq_true (by first | (with_reducible assumption) | assumption)
                                      have q168 : x10_3 < (t156.length : Int) := of_decide_eq_true (by first | (with_reducible assumption) | assumption)
                                      obtain ⟨ad168, e168, hx168_0, hx168_1, hx168_2⟩ := at_T54 (Kd.R_reads' HO_3.out).2.2 x10_3 p168 q168
                                      obtain rfl : ad167 = ad168 := (by injection e168)
                                      replace p168 := eq_true p168
                                      replace q168 := eq_true q168
                                      have p169 : 0 ≤ (x10_3 : Int) := of_decide_eq_true (by first | (with_reducible assumption) | assumption)
                                      have q169 : x10_3 < (t156.length : Int) := of_decide_eq_true (by first | (with_reducible assumption) | assumption)
                                      obtain ⟨ad169, e169, hx169_0, hx169_1, hx169_2⟩ := at_T54 (Kd.R_reads' HO_3.out).2.2 x10_3 p169 q169
                                      obtain rfl : ad167 = ad169 := (by injection e169)
                                      replace p169 := eq_true p169
                                      replace q169 := eq_true q169
                                      have hcz38_0 : wr.cell? ⟨gb166, 0, none⟩ = some (.int .i64 ((rd_T62 t159 x6_1).f0)) := (blk_cell BK166.out 0).trans rfl
                                      have hcz38_1 : wr.cell? ⟨gb166, 1, none⟩ = some (.int .i64 ((rd_T62 t159 x6_1).f1)) := (blk_cell BK166.out 1).trans rfl
                                      have hcz38_2 : wr.cell? ⟨gb166, 2, none⟩ = some (.int .i64 ((rd_T62 t159 x6_1).f2.f0)) := (blk_cell BK166.out 2).trans rfl
                                      have hcz38_3 : wr.cell? ⟨gb166, 3, none⟩ = some (.int .i64 ((rd_T62 t159 x6_1).f2.f1)) := (blk_cell BK166.out 3).trans rfl
                                      have hfz38_0 := blk_frozen BK166.out 0
                                      have hfz38_1 := blk_frozen BK166.out 1
                                      have hfz38_2 := blk_frozen BK166.out 2
                                      have hfz38_3 := blk_frozen BK166.out 3
                                      go_wp2
                                      repeat (go_quiet (fail); try go_wp2)
                                      go_roundg k3
                                      case measure => have := HK1.out; have := HJ15.out; have := HK3.out; omega
                                      case rel => exact ⟨(decide (((rd_T54 t156 x10_3).f1) ≤ ((rd_T62 t159 x6_1).f2.f0))), (wrap64 (x10_3 + 1)), (by first | rfl | (simp; done) | (simp [*]; done)), (by first | rfl | (simp; done) | (simp [*]; done)), H', ⟨by have := HK1.out; have := HJ15.out; have := HK3.out; omega⟩, ⟨by (with_reducible repeat (first | apply Kd.R_alloc | apply Kd.R_drewN | apply Kd.R_drew)); exact HO_3.out⟩, ⟨by (with_reducible repeat (first | apply Kd.R_alloc | apply Kd.R_drewN | apply Kd.R_drew)); exact HO_4.out⟩, ⟨by (with_reducible repeat (first | refine blk_drewN ?_ _ | refine blk_drew ?_ | refine blk_alloc ?_ _)); exact BK164.out⟩, ⟨by (with_reducible repeat (first | refine blk_drewN ?_ _ | refine blk_drew ?_ | refine blk_alloc ?_ _)); exact BK166.out⟩, ⟨by repeat (first | (with_reducible first | exact HB.out | apply below_alloc | apply pw_below_drewN | apply below_drew1 | refine below_set ?_ GE164.out | refine below_set ?_ GE166.out) | exact HB.out)⟩⟩
                                    · rw [if_neg c35] at H
                                      have c35b0 : decide (((rd_T62 t159 (ji12)).f2.f1) ≤ ((rd_T54 t156 x10_3).f1)) = false := decide_eq_false c35
                                      clear c35
                                      have H' := Aside0.mk H
                                      clear H
                                      have p167 : 0 ≤ (x10_3 : Int) := of_decide_eq_true (by first | (with_reducible assumption) | assumption)
                                      have q167 : x10_3 < (t156.length : Int) := of_decide_eq_true (by first | (with_reducible assumption) | assumption)
                                      obtain ⟨ad167, e167, hx167_0, hx167_1, hx167_2⟩ := at_T54 (Kd.R_reads' HO_3.out).2.2 x10_3 p167 q167
                                      cases e167
                                      replace p167 := eq_true p167
                                      replace q167 := eq_true q167
                                      have hnb39 := NB164_166.out
                                      have hnc39 := NB166_164.out
                                      have hcz40_0 : wr.cell? ⟨gb164, 0, none⟩ = some (.int .i64 ((rd_T62 t159 (ji12)).f0)) := (blk_cell BK164.out 0).trans rfl
                                      have hcz40_1 : wr.cell? ⟨gb164, 1, none⟩ = some (.int .i64 ((rd_T62 t159 (ji12)).f1)) := (blk_cell BK164.out 1).trans rfl
                                      have hcz40_2 : wr.cell? ⟨gb164, 2, none⟩ = some (.int .i64 ((rd_T62 t159 (ji12)).f2.f0)) := (blk_cell BK164.out 2).trans rfl
                                      have hcz40_3 : wr.cell? ⟨gb164, 3, none⟩ = some (.int .i64 ((rd_T62 t159 (ji12)).f2.f1)) := (blk_cell BK164.out 3).trans rfl
                                      have hfz40_0 := blk_frozen BK164.out 0
                                      have hfz40_1 := blk_frozen BK164.out 1
                                      have hfz40_2 := blk_frozen BK164.out 2
                                      have hfz40_3 := blk_frozen BK164.out 3
                                      have p168 : 0 ≤ (x10_3 : Int) := of_decide_eq_true (by first | (with_reducible assumption) | assumption)
                                      have q168 : x10_3 < (t156.length : Int) := of_decide_eq_true (by first | (with_reducible assumption) | assumption)
                                      obtain ⟨ad168, e168, hx168_0, hx168_1, hx168_2⟩ := at_T54 (Kd.R_reads' HO_3.out).2.2 x10_3 p168 q168
                                      obtain rfl : ad167 = ad168 := (by injection e168)
                                      replace p168 := eq_true p168
                                      replace q168 := eq_true q168
                                      go_wp2
                                      repeat (go_quiet (fail); try go_wp2)
                                      go_roundg k3
                                      case measure => have := HK1.out; have := HJ15.out; have := HK3.out; omega
                                      case rel => exact ⟨(false), (wrap64 (x10_3 + 1)), (by first | rfl | (simp; done) | (simp [*]; done)), (by first | rfl | (simp; done) | (simp [*]; done)), H', ⟨by have := HK1.out; have := HJ15.out; have := HK3.out; omega⟩, ⟨by (with_reducible repeat (first | apply Kd.R_alloc | apply Kd.R_drewN | apply Kd.R_drew)); exact HO_3.out⟩, ⟨by (with_reducible repeat (first | apply Kd.R_alloc | apply Kd.R_drewN | apply Kd.R_drew)); exact HO_4.out⟩, ⟨by (with_reducible repeat (first | refine blk_drewN ?_ _ | refine blk_drew ?_ | refine blk_alloc ?_ _)); exact BK164.out⟩, ⟨by (with_reducible repeat (first | refine blk_drewN ?_ _ | refine blk_drew ?_ | refine blk_alloc ?_ _)); exact BK166.out⟩, ⟨by repeat (first | (with_reducible first | exact HB.out | apply below_alloc | apply pw_below_drewN | apply below_drew1 | refine below_set ?_ GE164.out | refine below_set ?_ GE166.out) | exact HB.out)⟩⟩
                                  · rw [if_neg c34] at H
                                    have c34b0 : (((rd_T54 t156 x10_3).f0) == 2) = false := beq_eq_false_iff_ne.mpr c34
                                    have c34b1 : (((rd_T54 t156 x10_3).f0) != 2) = true := bne_iff_ne.mpr c34
                                    have H' := Aside0.mk H
                                    clear H
                                    have p167 : 0 ≤ (x10_3 : Int) := of_decide_eq_true (by first | (with_reducible assumption) | assumption)
                                    have q167 : x10_3 < (t156.length : Int) := of_decide_eq_true (by first | (with_reducible assumption) | assumption)
                                    obtain ⟨ad167, e167, hx167_0, hx167_1, hx167_2⟩ := at_T54 (Kd.R_reads' HO_3.out).2.2 x10_3 p167 q167
                                    cases e167
                                    replace p167 := eq_true p167
                                    replace q167 := eq_true q167
                                    go_wp2
                                    repeat (go_quiet (fail); try go_wp2)
                                    go_roundg k3
                                    case measure => have := HK1.out; have := HJ15.out; have := HK3.out; omega
                                    case rel => exact ⟨(false), (wrap64 (x10_3 + 1)), (by first | rfl | (simp; done) | (simp [*]; done)), (by first | rfl | (simp; done) | (simp [*]; done)), H', ⟨by have := HK1.out; have := HJ15.out; have := HK3.out; omega⟩, ⟨by (with_reducible repeat (first | apply Kd.R_alloc | apply Kd.R_drewN | apply Kd.R_drew)); exact HO_3.out⟩, ⟨by (with_reducible repeat (first | apply Kd.R_alloc | apply Kd.R_drewN | apply Kd.R_drew)); exact HO_4.out⟩, ⟨by (with_reducible repeat (first | refine blk_drewN ?_ _ | refine blk_drew ?_ | refine blk_alloc ?_ _)); exact BK164.out⟩, ⟨by (with_reducible repeat (first | refine blk_drewN ?_ _ | refine blk_drew ?_ | refine blk_alloc ?_ _)); exact BK166.out⟩, ⟨by repeat (first | (with_reducible first | exact HB.out | apply below_alloc | apply pw_below_drewN | apply below_drew1 | refine below_set ?_ GE164.out | refine below_set ?_ GE166.out) | exact HB.out)⟩⟩
                                · rw [if_neg c33] at H
                                  exact absurd H (by simp)
                            · rw [if_neg c31] at H
                              have c31b0 : decide (x10_3 < (t156.length : Int)) = false := decide_eq_false c31
                              clear c31
                              by_cases c41 : x9_3 = true
                              · subst c41
                                have H1 : (dialtonelaw14_LifeQuarantine.l0 k3 t156 t159 (wrap64 (x6_1 + 1))) = some r := by rw [if_pos rfl] at H; exact H
                                clear H
                                have H := H1
                                clear H1
                                have H' := Aside0.mk H
                                clear H
                                go_wp2
                                repeat (go_quiet (fail); try go_wp2)
                                go_roundg k3
                                case measure => have := HK1.out; have := HJ15.out; have := HK3.out; omega
                                case rel => exact ⟨(wrap64 (x6_1 + 1)), (by first | rfl | (simp; done) | (simp [*]; done)), H', ⟨by have := HK1.out; have := HJ15.out; have := HK3.out; omega⟩, ⟨by (with_reducible repeat (first | apply Kd.R_alloc | apply Kd.R_drewN | apply Kd.R_drew)); exact HO_3.out⟩, ⟨by (with_reducible repeat (first | apply Kd.R_alloc | apply Kd.R_drewN | apply Kd.R_drew)); exact Kd.R_mono HO_4.out (fun _ hk => trivial)⟩, ⟨by repeat (first | (with_reducible first | exact HB.out | apply below_alloc | apply pw_below_drewN | apply below_drew1 | refine below_set ?_ GE164.out | refine below_set ?_ GE166.out) | exact HB.out)⟩⟩
                              · replace c41 := Bool.eq_false_iff.mpr c41
                                subst c41
                                have H1 : (some false) = some r := by rw [if_neg (show ¬ (false = true) by decide)] at H; exact H
                                clear H
                                have H := H1
                                clear H1
                                obtain rfl := Option.some.inj H
                                go_wp2
                                repeat (go_quiet (fail); try go_wp2)
                                go_ret
                                exact ⟨by first | rfl | (simp [errW_none, errW_some] <;> rfl) | (simp only [← hji12]; first | rfl | (simp [errW_none, errW_some] <;> rfl)) | (simp [*, errW_none, errW_some] <;> rfl), by repeat (first | (with_reducible first | exact HB.out | apply below_alloc | apply pw_below_drewN | apply below_drew1 | refine below_set ?_ GE164.out | refine below_set ?_ GE166.out) | exact HB.out)⟩
                · rw [if_neg c15] at H
                  exact absurd H (by simp)
              · rw [if_neg c14] at H
                exact absurd H (by simp)
            · rw [if_neg c13] at H
              exact absurd H (by simp)
          · rw [if_neg c11] at H
            have c11b0 : decide (x6_1 < (t159.length : Int)) = false := decide_eq_false c11
            clear c11
            obtain rfl := Option.some.inj H
            obtain ⟨Ao42, co42, eo42⟩ := Kd.R_slice HO_4.out
            subst eo42
            go_wp2
            repeat (go_quiet (fail); try go_wp2)
            go_ret
            exact ⟨by first | rfl | (simp [errW_none, errW_some] <;> rfl) | (simp [*, errW_none, errW_some] <;> rfl), by repeat (first | (with_reducible first | exact HB.out | apply below_alloc | apply pw_below_drewN | apply below_drew1) | exact HB.out)⟩
    · rw [if_neg c6] at H
      have c6b0 : (t160 == 0) = false := beq_eq_false_iff_ne.mpr c6
      have c6b1 : (t160 != 0) = true := bne_iff_ne.mpr c6
      obtain rfl := Option.some.inj H
      go_enter Try.func6, Try.ntmps6
      go_wp2_with (first | (go_at_call 13; (with_reducible refine (dialtonelaw14_sane.calls  true _ A2.out).mono ?_); rintro e w43 ⟨rfl, hb⟩; have n0_ := Aside0.mk (below_step (by repeat (first | (with_reducible first | exact HB.out | apply below_alloc | apply pw_below_drewN | apply below_drew1) | exact HB.out)) hb); clear HB; have HB := n0_; clear n0_; (try clear hb); (try clear hb2); (try clear hk); (try clear hi)) | (go_at_call 14; (with_reducible refine (dialtoneref14_Made.calls k _ _ l0 t156 _ ?side1 ?side2 A4.out).mono ?_); (case side1 => repeat (first | exact (Kd.C_below HR0.out HB.out) | (with_reducible refine Kd.C_alloc ?_ _) | (with_reducible refine Kd.C_drewN ?_ _) | (with_reducible refine Kd.C_drew ?_))); (case side2 => exact HC0.out); rintro e w44 ⟨v157, rfl, ho0, hb⟩; have n0_ := Aside0.mk (Kd.R_lower ho0 (below_size (by repeat (first | (with_reducible first | exact HB.out | apply below_alloc | apply pw_below_drewN | apply below_drew1) | exact HB.out)))); have n1_ := Aside0.mk (below_step (by repeat (first | (with_reducible first | exact HB.out | apply below_alloc | apply pw_below_drewN | apply below_drew1) | exact HB.out)) hb); clear HB; have HO158 := n0_; have HB := n1_; clear n0_ n1_; (try clear hb); (try clear hb2); (try clear hk); (try clear hi); (try clear ho0); obtain ⟨Ao45, co45, eo45⟩ := Kd.R_slice HO158.out; subst eo45) | (go_at_call 19; (with_reducible refine (life_Stays.calls _ _ t156 t159 t160 _ ?side1 ?side2 A5.out).mono ?_); (case side1 => repeat (first | exact (Kd.R_reads' HO158.out).2.2 | (with_reducible refine Kd.C_alloc ?_ _) | (with_reducible refine Kd.C_drewN ?_ _) | (with_reducible refine Kd.C_drew ?_))); (case side2 => exact (Kd.R_reads' HO158.out).2.1); rintro e w46 ⟨v161, rfl, ho0, hb⟩; have n0_ := Aside0.mk (Kd.R_below (by (with_reducible repeat (first | apply Kd.R_alloc | apply Kd.R_drewN | apply Kd.R_drew)); exact HO158.out) hb); have n1_ := Aside0.mk (Kd.R_lower ho0 (below_size (by repeat (first | (with_reducible first | exact HB.out | apply below_alloc | apply pw_below_drewN | apply below_drew1) | exact HB.out)))); have n2_ := Aside0.mk (below_step (by repeat (first | (with_reducible first | exact HB.out | apply below_alloc | apply pw_below_drewN | apply below_drew1) | exact HB.out)) hb); clear HO158; clear HB; have HO158 := n0_; have HO162 := n1_; have HB := n2_; clear n0_ n1_ n2_; (try clear hb); (try clear hb2); (try clear hk); (try clear hi); (try clear ho0)))
      repeat (go_quiet (first | (go_at_call 13; (with_reducible refine (dialtonelaw14_sane.calls  true _ A2.out).mono ?_); rintro e w43 ⟨rfl, hb⟩; have n0_ := Aside0.mk (below_step (by repeat (first | (with_reducible first | exact HB.out | apply below_alloc | apply pw_below_drewN | apply below_drew1) | exact HB.out)) hb); clear HB; have HB := n0_; clear n0_; (try clear hb); (try clear hb2); (try clear hk); (try clear hi)) | (go_at_call 14; (with_reducible refine (dialtoneref14_Made.calls k _ _ l0 t156 _ ?side1 ?side2 A4.out).mono ?_); (case side1 => repeat (first | exact (Kd.C_below HR0.out HB.out) | (with_reducible refine Kd.C_alloc ?_ _) | (with_reducible refine Kd.C_drewN ?_ _) | (with_reducible refine Kd.C_drew ?_))); (case side2 => exact HC0.out); rintro e w44 ⟨v157, rfl, ho0, hb⟩; have n0_ := Aside0.mk (Kd.R_lower ho0 (below_size (by repeat (first | (with_reducible first | exact HB.out | apply below_alloc | apply pw_below_drewN | apply below_drew1) | exact HB.out)))); have n1_ := Aside0.mk (below_step (by repeat (first | (with_reducible first | exact HB.out | apply below_alloc | apply pw_below_drewN | apply below_drew1) | exact HB.out)) hb); clear HB; have HO158 := n0_; have HB := n1_; clear n0_ n1_; (try clear hb); (try clear hb2); (try clear hk); (try clear hi); (try clear ho0); obtain ⟨Ao45, co45, eo45⟩ := Kd.R_slice HO158.out; subst eo45) | (go_at_call 19; (with_reducible refine (life_Stays.calls _ _ t156 t159 t160 _ ?side1 ?side2 A5.out).mono ?_); (case side1 => repeat (first | exact (Kd.R_reads' HO158.out).2.2 | (with_reducible refine Kd.C_alloc ?_ _) | (with_reducible refine Kd.C_drewN ?_ _) | (with_reducible refine Kd.C_drew ?_))); (case side2 => exact (Kd.R_reads' HO158.out).2.1); rintro e w46 ⟨v161, rfl, ho0, hb⟩; have n0_ := Aside0.mk (Kd.R_below (by (with_reducible repeat (first | apply Kd.R_alloc | apply Kd.R_drewN | apply Kd.R_drew)); exact HO158.out) hb); have n1_ := Aside0.mk (Kd.R_lower ho0 (below_size (by repeat (first | (with_reducible first | exact HB.out | apply below_alloc | apply pw_below_drewN | apply below_drew1) | exact HB.out)))); have n2_ := Aside0.mk (below_step (by repeat (first | (with_reducible first | exact HB.out | apply below_alloc | apply pw_below_drewN | apply below_drew1) | exact HB.out)) hb); clear HO158; clear HB; have HO158 := n0_; have HO162 := n1_; have HB := n2_; clear n0_ n1_ n2_; (try clear hb); (try clear hb2); (try clear hk); (try clear hi); (try clear ho0))); try go_wp2_with (first | (go_at_call 13; (with_reducible refine (dialtonelaw14_sane.calls  true _ A2.out).mono ?_); rintro e w43 ⟨rfl, hb⟩; have n0_ := Aside0.mk (below_step (by repeat (first | (with_reducible first | exact HB.out | apply below_alloc | apply pw_below_drewN | apply below_drew1) | exact HB.out)) hb); clear HB; have HB := n0_; clear n0_; (try clear hb); (try clear hb2); (try clear hk); (try clear hi)) | (go_at_call 14; (with_reducible refine (dialtoneref14_Made.calls k _ _ l0 t156 _ ?side1 ?side2 A4.out).mono ?_); (case side1 => repeat (first | exact (Kd.C_below HR0.out HB.out) | (with_reducible refine Kd.C_alloc ?_ _) | (with_reducible refine Kd.C_drewN ?_ _) | (with_reducible refine Kd.C_drew ?_))); (case side2 => exact HC0.out); rintro e w44 ⟨v157, rfl, ho0, hb⟩; have n0_ := Aside0.mk (Kd.R_lower ho0 (below_size (by repeat (first | (with_reducible first | exact HB.out | apply below_alloc | apply pw_below_drewN | apply below_drew1) | exact HB.out)))); have n1_ := Aside0.mk (below_step (by repeat (first | (with_reducible first | exact HB.out | apply below_alloc | apply pw_below_drewN | apply below_drew1) | exact HB.out)) hb); clear HB; have HO158 := n0_; have HB := n1_; clear n0_ n1_; (try clear hb); (try clear hb2); (try clear hk); (try clear hi); (try clear ho0); obtain ⟨Ao45, co45, eo45⟩ := Kd.R_slice HO158.out; subst eo45) | (go_at_call 19; (with_reducible refine (life_Stays.calls _ _ t156 t159 t160 _ ?side1 ?side2 A5.out).mono ?_); (case side1 => repeat (first | exact (Kd.R_reads' HO158.out).2.2 | (with_reducible refine Kd.C_alloc ?_ _) | (with_reducible refine Kd.C_drewN ?_ _) | (with_reducible refine Kd.C_drew ?_))); (case side2 => exact (Kd.R_reads' HO158.out).2.1); rintro e w46 ⟨v161, rfl, ho0, hb⟩; have n0_ := Aside0.mk (Kd.R_below (by (with_reducible repeat (first | apply Kd.R_alloc | apply Kd.R_drewN | apply Kd.R_drew)); exact HO158.out) hb); have n1_ := Aside0.mk (Kd.R_lower ho0 (below_size (by repeat (first | (with_reducible first | exact HB.out | apply below_alloc | apply pw_below_drewN | apply below_drew1) | exact HB.out)))); have n2_ := Aside0.mk (below_step (by repeat (first | (with_reducible first | exact HB.out | apply below_alloc | apply pw_below_drewN | apply below_drew1) | exact HB.out)) hb); clear HO158; clear HB; have HO158 := n0_; have HO162 := n1_; have HB := n2_; clear n0_ n1_ n2_; (try clear hb); (try clear hb2); (try clear hk); (try clear hi); (try clear ho0))))
      go_ret
      exact ⟨by first | rfl | (simp [errW_none, errW_some] <;> rfl) | (simp [*, errW_none, errW_some] <;> rfl), by repeat (first | (with_reducible first | exact HB.out | apply below_alloc | apply pw_below_drewN | apply below_drew1) | exact HB.out)⟩
  · replace c3 := Bool.eq_false_iff.mpr c3
    subst c3
    have H1 : (some false) = some r := by rw [if_neg (show ¬ (false = true) by decide)] at H; exact H
    clear H
    have H := H1
    clear H1
    obtain rfl := Option.some.inj H
    go_enter Try.func6, Try.ntmps6
    go_wp2_with (first | (go_at_call 13; (with_reducible refine (dialtonelaw14_sane.calls  false _ A2.out).mono ?_); rintro e w47 ⟨rfl, hb⟩; have n0_ := Aside0.mk (below_step (by repeat (first | (with_reducible first | exact HB.out | apply below_alloc | apply pw_below_drewN | apply below_drew1) | exact HB.out)) hb); clear HB; have HB := n0_; clear n0_; (try clear hb); (try clear hb2); (try clear hk); (try clear hi)))
    repeat (go_quiet (first | (go_at_call 13; (with_reducible refine (dialtonelaw14_sane.calls  false _ A2.out).mono ?_); rintro e w47 ⟨rfl, hb⟩; have n0_ := Aside0.mk (below_step (by repeat (first | (with_reducible first | exact HB.out | apply below_alloc | apply pw_below_drewN | apply below_drew1) | exact HB.out)) hb); clear HB; have HB := n0_; clear n0_; (try clear hb); (try clear hb2); (try clear hk); (try clear hi))); try go_wp2_with (first | (go_at_call 13; (with_reducible refine (dialtonelaw14_sane.calls  false _ A2.out).mono ?_); rintro e w47 ⟨rfl, hb⟩; have n0_ := Aside0.mk (below_step (by repeat (first | (with_reducible first | exact HB.out | apply below_alloc | apply pw_below_drewN | apply below_drew1) | exact HB.out)) hb); clear HB; have HB := n0_; clear n0_; (try clear hb); (try clear hb2); (try clear hk); (try clear hi))))
    go_ret
    exact ⟨by first | rfl | (simp [errW_none, errW_some] <;> rfl) | (simp [*, errW_none, errW_some] <;> rfl), by repeat (first | (with_reducible first | exact HB.out | apply below_alloc | apply pw_below_drewN | apply below_drew1) | exact HB.out)⟩

end Go.Proofs.Yteilkigdlkeiaaa.Q
