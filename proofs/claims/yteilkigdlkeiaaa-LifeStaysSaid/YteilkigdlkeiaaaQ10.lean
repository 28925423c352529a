/- Printed out of the translation by a program: functions and their contracts. -/
import Derived.Test.YteilkigdlkeiaaaQ0
import Derived.Test.YteilkigdlkeiaaaQ5
import Derived.Test.YteilkigdlkeiaaaQ6
import Derived.Test.YteilkigdlkeiaaaEx
namespace Go.Proofs.Yteilkigdlkeiaaa.Q
attribute [local go_sem] Go.Proofs.Yteilkigdlkeiaaa.St.cell_map Option.map_some
open Go.RowKit Go.Proofs.YteilkigdlkeiaaaW.PrintWords Go.Proofs.YteilkigdlkeiaaaW.PrintLast Go.Proofs.YteilkigdlkeiaaaW.PrintMore
attribute [local go_sem] max2_int min2_int max_two min_two max_three min_three max_four min_four   -- for this text's walks alone
set_option linter.unusedVariables false
set_option linter.unusedSimpArgs false

/-! ### dialtonelaw14_LifeStays: function 8 -/
mutual
def dialtonelaw14_LifeStays.j0 : Nat → Int → List (S62) → Bool → Int → Int → Int → Int → Option (Bool)
  | 0, _, _, _, _, _, _, _ => none
  | k + 1, x6, x7, x38, x208000, x208001, x208002, x208003 => if x38 = true then (some false) else (dialtonelaw14_LifeStays.l0 k x6 x7 0 0 x208000 x208001 x208002 x208003)
def dialtonelaw14_LifeStays.l0 : Nat → Int → List (S62) → Int → Int → Int → Int → Int → Int → Option (Bool)
  | 0, _, _, _, _, _, _, _, _ => none
  | k + 1, x6, x7, x11, x12, x208000, x208001, x208002, x208003 => if x12 < (x7.length : Int) then (if 0 ≤ x12 then (if ((rd_T62 x7 x12).f2.f0) < 0 then (dialtonelaw14_LifeStays.j2 k x6 x7 x11 x12 true x208000 x208001 x208002 x208003 ((rd_T62 x7 x12).f2.f0) ((rd_T62 x7 x12).f2.f1)) else (if ((rd_T62 x7 x12).f2.f0) ≥ ((rd_T62 x7 x12).f2.f1) then (dialtonelaw14_LifeStays.j2 k x6 x7 x11 x12 true x208000 x208001 x208002 x208003 ((rd_T62 x7 x12).f2.f0) ((rd_T62 x7 x12).f2.f1)) else (if ((rd_T62 x7 x12).f2.f1) > 10000001 then (dialtonelaw14_LifeStays.j2 k x6 x7 x11 x12 true x208000 x208001 x208002 x208003 ((rd_T62 x7 x12).f2.f0) ((rd_T62 x7 x12).f2.f1)) else (if x12 > 0 then (if 0 ≤ (wrap64 (x12 - 1)) then (if (wrap64 (x12 - 1)) < (x7.length : Int) then (if ((rd_T62 x7 x12).f2.f0) < ((rd_T62 x7 (wrap64 (x12 - 1))).f2.f1) then (dialtonelaw14_LifeStays.j2 k x6 x7 x11 x12 true x208000 x208001 x208002 x208003 ((rd_T62 x7 x12).f2.f0) ((rd_T62 x7 x12).f2.f1)) else (if ((rd_T62 x7 x12).f2.f0) = ((rd_T62 x7 (wrap64 (x12 - 1))).f2.f1) then (dialtonelaw14_LifeStays.j2 k x6 x7 x11 x12 (((rd_T62 x7 x12).f1) == ((rd_T62 x7 (wrap64 (x12 - 1))).f1)) x208000 x208001 x208002 x208003 ((rd_T62 x7 x12).f2.f0) ((rd_T62 x7 x12).f2.f1)) else (dialtonelaw14_LifeStays.j2 k x6 x7 x11 x12 false x208000 x208001 x208002 x208003 ((rd_T62 x7 x12).f2.f0) ((rd_T62 x7 x12).f2.f1)))) else (none)) else (none)) else (dialtonelaw14_LifeStays.j2 k x6 x7 x11 x12 false x208000 x208001 x208002 x208003 ((rd_T62 x7 x12).f2.f0) ((rd_T62 x7 x12).f2.f1)))))) else (none)) else (if x208000 = 1 then (if x11 = 1 then (some true) else (some false)) else (if x208000 = 2 then (if x11 = 1 then (some true) else (some false)) else (some (x11 == 0))))
def dialtonelaw14_LifeStays.j2 : Nat → Int → List (S62) → Int → Int → Bool → Int → Int → Int → Int → Int → Int → Option (Bool)
  | 0, _, _, _, _, _, _, _, _, _, _, _ => none
  | k + 1, x6, x7, x11, x12, x106, x208000, x208001, x208002, x208003, x210000, x210001 => if x106 = true then (some false) else (if x210000 ≤ x6 then (dialtonelaw14_LifeStays.j3 k x6 x7 x11 x12 (decide (x6 < x210001)) x208000 x208001 x208002 x208003) else (dialtonelaw14_LifeStays.j3 k x6 x7 x11 x12 false x208000 x208001 x208002 x208003))
def dialtonelaw14_LifeStays.j3 : Nat → Int → List (S62) → Int → Int → Bool → Int → Int → Int → Int → Option (Bool)
  | 0, _, _, _, _, _, _, _, _, _ => none
  | k + 1, x6, x7, x11, x12, x116, x208000, x208001, x208002, x208003 => if x116 = true then (if 0 ≤ x12 then (if x12 < (x7.length : Int) then (if ((rd_T62 x7 x12).f1) = x208002 then (if ((rd_T62 x7 x12).f0) = x208001 then (dialtonelaw14_LifeStays.l0 k x6 x7 (wrap64 (x11 + 1)) (wrap64 (x12 + 1)) x208000 x208001 x208002 x208003) else (some false)) else (some false)) else (none)) else (none)) else (dialtonelaw14_LifeStays.l0 k x6 x7 x11 (wrap64 (x12 + 1)) x208000 x208001 x208002 x208003)
end
def dialtonelaw14_LifeStays.f (k : Nat) (l0 : List (S23)) (a1 : Int) : Option (Bool) := (dialtonelaw14_sane.f).bind fun t193 => (if t193 = true then ((dialtoneref14_Made.f k l0).bind fun t194 => ((dialtoneref14_Time.f t194 a1).bind fun t197 => ((life_Stays.f t194).bind fun bt198 => ((life_At.f t194 t197).bind fun bt202 => (if bt198.2 = 0 then (dialtonelaw14_LifeStays.j0 k t197 bt198.1 (bt202.2.2.2.2 != 0) bt202.1 bt202.2.1 bt202.2.2.1 bt202.2.2.2.1) else (dialtonelaw14_LifeStays.j0 k t197 bt198.1 true bt202.1 bt202.2.1 bt202.2.2.1 bt202.2.2.2.1)))))) else (some false))
theorem dialtonelaw14_LifeStays.mono_l : ∀ k, (∀ y0 y1 y2 y3 y4 y5 y6, LeO (dialtonelaw14_LifeStays.j0 k y0 y1 y2 y3 y4 y5 y6) (dialtonelaw14_LifeStays.j0 (k + 1) y0 y1 y2 y3 y4 y5 y6)) ∧ (∀ y0 y1 y2 y3 y4 y5 y6 y7, LeO (dialtonelaw14_LifeStays.l0 k y0 y1 y2 y3 y4 y5 y6 y7) (dialtonelaw14_LifeStays.l0 (k + 1) y0 y1 y2 y3 y4 y5 y6 y7)) ∧ (∀ y0 y1 y2 y3 y4 y5 y6 y7 y8 y9 y10, LeO (dialtonelaw14_LifeStays.j2 k y0 y1 y2 y3 y4 y5 y6 y7 y8 y9 y10) (dialtonelaw14_LifeStays.j2 (k + 1) y0 y1 y2 y3 y4 y5 y6 y7 y8 y9 y10)) ∧ (∀ y0 y1 y2 y3 y4 y5 y6 y7 y8, LeO (dialtonelaw14_LifeStays.j3 k y0 y1 y2 y3 y4 y5 y6 y7 y8) (dialtonelaw14_LifeStays.j3 (k + 1) y0 y1 y2 y3 y4 y5 y6 y7 y8))
  | 0 => ⟨fun _ _ _ _ _ _ _ r h => by simp [dialtonelaw14_LifeStays.j0] at h, fun _ _ _ _ _ _ _ _ r h => by simp [dialtonelaw14_LifeStays.l0] at h, fun _ _ _ _ _ _ _ _ _ _ _ r h => by simp [dialtonelaw14_LifeStays.j2] at h, fun _ _ _ _ _ _ _ _ _ r h => by simp [dialtonelaw14_LifeStays.j3] at h⟩
  | k + 1 => by
    obtain ⟨ih0, ih1, ih2, ih3⟩ := dialtonelaw14_LifeStays.mono_l k
    refine ⟨?_, ?_, ?_, ?_⟩
    · intro y0 y1 y2 y3 y4 y5 y6
      unfold dialtonelaw14_LifeStays.j0
      repeat' first
      | (with_reducible exact ih0 _ _ _ _ _ _ _)
      | (with_reducible exact ih1 _ _ _ _ _ _ _ _)
      | (with_reducible exact ih2 _ _ _ _ _ _ _ _ _ _ _)
      | (with_reducible exact ih3 _ _ _ _ _ _ _ _ _)
      | (with_reducible exact dialtoneref14_Made.mono _ _)
      | (with_reducible exact LeO.refl _)
      | (with_reducible exact LeO.none _)
      | (with_reducible refine LeO.ite ?_ ?_)
      | (with_reducible refine LeO.bind ?_ (fun _ => ?_))
      | exact ih0 _ _ _ _ _ _ _
      | exact ih1 _ _ _ _ _ _ _ _
      | exact ih2 _ _ _ _ _ _ _ _ _ _ _
      | exact ih3 _ _ _ _ _ _ _ _ _
      | exact dialtoneref14_Made.mono _ _
      | exact LeO.none _
      | refine LeO.ite ?_ ?_
      | refine LeO.bind ?_ (fun _ => ?_)
    · intro y0 y1 y2 y3 y4 y5 y6 y7
      unfold dialtonelaw14_LifeStays.l0
      repeat' first
      | (with_reducible exact ih0 _ _ _ _ _ _ _)
      | (with_reducible exact ih1 _ _ _ _ _ _ _ _)
      | (with_reducible exact ih2 _ _ _ _ _ _ _ _ _ _ _)
      | (with_reducible exact ih3 _ _ _ _ _ _ _ _ _)
      | (with_reducible exact dialtoneref14_Made.mono _ _)
      | (with_reducible exact LeO.refl _)
      | (with_reducible exact LeO.none _)
      | (with_reducible refine LeO.ite ?_ ?_)
      | (with_reducible refine LeO.bind ?_ (fun _ => ?_))
      | exact ih0 _ _ _ _ _ _ _
      | exact ih1 _ _ _ _ _ _ _ _
      | exact ih2 _ _ _ _ _ _ _ _ _ _ _
      | exact ih3 _ _ _ _ _ _ _ _ _
      | exact dialtoneref14_Made.mono _ _
      | exact LeO.none _
      | refine LeO.ite ?_ ?_
      | refine LeO.bind ?_ (fun _ => ?_)
    · intro y0 y1 y2 y3 y4 y5 y6 y7 y8 y9 y10
      unfold dialtonelaw14_LifeStays.j2
      repeat' first
      | (with_reducible exact ih0 _ _ _ _ _ _ _)
      | (with_reducible exact ih1 _ _ _ _ _ _ _ _)
      | (with_reducible exact ih2 _ _ _ _ _ _ _ _ _ _ _)
      | (with_reducible exact ih3 _ _ _ _ _ _ _ _ _)
      | (with_reducible exact dialtoneref14_Made.mono _ _)
      | (with_reducible exact LeO.refl _)
      | (with_reducible exact LeO.none _)
      | (with_reducible refine LeO.ite ?_ ?_)
      | (with_reducible refine LeO.bind ?_ (fun _ => ?_))
      | exact ih0 _ _ _ _ _ _ _
      | exact ih1 _ _ _ _ _ _ _ _
      | exact ih2 _ _ _ _ _ _ _ _ _ _ _
      | exact ih3 _ _ _ _ _ _ _ _ _
      | exact dialtoneref14_Made.mono _ _
      | exact LeO.none _
      | refine LeO.ite ?_ ?_
      | refine LeO.bind ?_ (fun _ => ?_)
    · intro y0 y1 y2 y3 y4 y5 y6 y7 y8
      unfold dialtonelaw14_LifeStays.j3
      repeat' first
      | (with_reducible exact ih0 _ _ _ _ _ _ _)
      | (with_reducible exact ih1 _ _ _ _ _ _ _ _)
      | (with_reducible exact ih2 _ _ _ _ _ _ _ _ _ _ _)
      | (with_reducible exact ih3 _ _ _ _ _ _ _ _ _)
      | (with_reducible exact dialtoneref14_Made.mono _ _)
      | (with_reducible exact LeO.refl _)
      | (with_reducible exact LeO.none _)
      | (with_reducible refine LeO.ite ?_ ?_)
      | (with_reducible refine LeO.bind ?_ (fun _ => ?_))
      | exact ih0 _ _ _ _ _ _ _
      | exact ih1 _ _ _ _ _ _ _ _
      | exact ih2 _ _ _ _ _ _ _ _ _ _ _
      | exact ih3 _ _ _ _ _ _ _ _ _
      | exact dialtoneref14_Made.mono _ _
      | exact LeO.none _
      | refine LeO.ite ?_ ?_
      | refine LeO.bind ?_ (fun _ => ?_)
theorem dialtonelaw14_LifeStays.mono : ∀ a0 a1 k, LeO (dialtonelaw14_LifeStays.f k a0 a1) (dialtonelaw14_LifeStays.f (k + 1) a0 a1) := by
  intro a0 a1 k
  obtain ⟨ih0, ih1, ih2, ih3⟩ := dialtonelaw14_LifeStays.mono_l k
  unfold dialtonelaw14_LifeStays.f
  repeat' first
      | (with_reducible exact ih0 _ _ _ _ _ _ _)
      | (with_reducible exact ih1 _ _ _ _ _ _ _ _)
      | (with_reducible exact ih2 _ _ _ _ _ _ _ _ _ _ _)
      | (with_reducible exact ih3 _ _ _ _ _ _ _ _ _)
      | (with_reducible exact dialtoneref14_Made.mono _ _)
      | (with_reducible exact LeO.refl _)
      | (with_reducible exact LeO.none _)
      | (with_reducible refine LeO.ite ?_ ?_)
      | (with_reducible refine LeO.bind ?_ (fun _ => ?_))
      | exact ih0 _ _ _ _ _ _ _
      | exact ih1 _ _ _ _ _ _ _ _
      | exact ih2 _ _ _ _ _ _ _ _ _ _ _
      | exact ih3 _ _ _ _ _ _ _ _ _
      | exact dialtoneref14_Made.mono _ _
      | exact LeO.none _
      | refine LeO.ite ?_ ?_
      | refine LeO.bind ?_ (fun _ => ?_)
set_option maxHeartbeats 8000000 in
set_option maxRecDepth 100000 in
theorem dialtonelaw14_LifeStays.calls (k : Nat) (A0 : Option Addr) (c0 : Nat) (l0 : List (S23)) (a1 : Int) (r : Bool) (w : World) (hr0 : Kd.C k23 w A0 l0.length l0) (hc0 : l0.length ≤ c0) (h : dialtonelaw14_LifeStays.f k l0 a1 = some r) :
    Calls Try.prog 8 #[.slice A0 l0.length c0, .int .i64 a1] w fun e w' => e = .returned (.bool r) ∧ Below w.heap.size w w' := by
  have hu26 := Try.underlying26
  have hu60 := Try.underlying60
  have HR0 := Aside0.mk hr0
  have HC0 := Aside0.mk hc0
  clear hr0 hc0
  have HB := Aside0.mk (Below.refl w.heap.size w)
  have H : ((dialtonelaw14_sane.f).bind fun t193 => (if t193 = true then ((dialtoneref14_Made.f k l0).bind fun t194 => ((dialtoneref14_Time.f t194 a1).bind fun t197 => ((life_Stays.f t194).bind fun bt198 => ((life_At.f t194 t197).bind fun bt202 => (if bt198.2 = 0 then (dialtonelaw14_LifeStays.j0 k t197 bt198.1 (bt202.2.2.2.2 != 0) bt202.1 bt202.2.1 bt202.2.2.1 bt202.2.2.2.1) else (dialtonelaw14_LifeStays.j0 k t197 bt198.1 true bt202.1 bt202.2.1 bt202.2.2.1 bt202.2.2.2.1)))))) else (some false))) = some r := h
  clear h
  replace H := Option.bind_eq_some_iff.mp H
  obtain ⟨t193, A30, H⟩ := H
  replace H : (if t193 = true then ((dialtoneref14_Made.f k l0).bind fun t194 => ((dialtoneref14_Time.f t194 a1).bind fun t197 => ((life_Stays.f t194).bind fun bt198 => ((life_At.f t194 t197).bind fun bt202 => (if bt198.2 = 0 then (dialtonelaw14_LifeStays.j0 k t197 bt198.1 (bt202.2.2.2.2 != 0) bt202.1 bt202.2.1 bt202.2.2.1 bt202.2.2.2.1) else (dialtonelaw14_LifeStays.j0 k t197 bt198.1 true bt202.1 bt202.2.1 bt202.2.2.1 bt202.2.2.2.1)))))) else (some false)) = some r := H
  have A3 := Aside0.mk A30
  clear A30
  by_cases c4 : t193 = true
  · subst c4
    have H1 : ((dialtoneref14_Made.f k l0).bind fun t194 => ((dialtoneref14_Time.f t194 a1).bind fun t197 => ((life_Stays.f t194).bind fun bt198 => ((life_At.f t194 t197).bind fun bt202 => (if bt198.2 = 0 then (dialtonelaw14_LifeStays.j0 k t197 bt198.1 (bt202.2.2.2.2 != 0) bt202.1 bt202.2.1 bt202.2.2.1 bt202.2.2.2.1) else (dialtonelaw14_LifeStays.j0 k t197 bt198.1 true bt202.1 bt202.2.1 bt202.2.2.1 bt202.2.2.2.1)))))) = some r := by rw [if_pos rfl] at H; exact H
    clear H
    have H := H1
    clear H1
    replace H := Option.bind_eq_some_iff.mp H
    obtain ⟨t194, A50, H⟩ := H
    replace H : ((dialtoneref14_Time.f t194 a1).bind fun t197 => ((life_Stays.f t194).bind fun bt198 => ((life_At.f t194 t197).bind fun bt202 => (if bt198.2 = 0 then (dialtonelaw14_LifeStays.j0 k t197 bt198.1 (bt202.2.2.2.2 != 0) bt202.1 bt202.2.1 bt202.2.2.1 bt202.2.2.2.1) else (dialtonelaw14_LifeStays.j0 k t197 bt198.1 true bt202.1 bt202.2.1 bt202.2.2.1 bt202.2.2.2.1))))) = some r := H
    have A5 := Aside0.mk A50
    clear A50
    replace H := Option.bind_eq_some_iff.mp H
    obtain ⟨t197, A60, H⟩ := H
    replace H : ((life_Stays.f t194).bind fun bt198 => ((life_At.f t194 t197).bind fun bt202 => (if bt198.2 = 0 then (dialtonelaw14_LifeStays.j0 k t197 bt198.1 (bt202.2.2.2.2 != 0) bt202.1 bt202.2.1 bt202.2.2.1 bt202.2.2.2.1) else (dialtonelaw14_LifeStays.j0 k t197 bt198.1 true bt202.1 bt202.2.1 bt202.2.2.1 bt202.2.2.2.1)))) = some r := H
    have A6 := Aside0.mk A60
    clear A60
    replace H := Option.bind_eq_some_iff.mp H
    obtain ⟨⟨t198, t199⟩, A70, H⟩ := H
    replace H : ((life_At.f t194 t197).bind fun bt202 => (if t199 = 0 then (dialtonelaw14_LifeStays.j0 k t197 t198 (bt202.2.2.2.2 != 0) bt202.1 bt202.2.1 bt202.2.2.1 bt202.2.2.2.1) else (dialtonelaw14_LifeStays.j0 k t197 t198 true bt202.1 bt202.2.1 bt202.2.2.1 bt202.2.2.2.1))) = some r := H
    have A7 := Aside0.mk A70
    clear A70
    replace H := Option.bind_eq_some_iff.mp H
    obtain ⟨⟨t202, t203, t204, t205, t206⟩, A80, H⟩ := H
    replace H : (if t199 = 0 then (dialtonelaw14_LifeStays.j0 k t197 t198 (t206 != 0) t202 t203 t204 t205) else (dialtonelaw14_LifeStays.j0 k t197 t198 true t202 t203 t204 t205)) = some r := H
    have A8 := Aside0.mk A80
    clear A80
    have HC9 := Aside0.mk H
    clear H
    go_enter Try.func8, Try.ntmps8
    go_upto_region 7 with (first | (go_at_call 13; (with_reducible refine (dialtonelaw14_sane.calls  true _ A3.out).mono ?_); rintro e w10 ⟨rfl, hb⟩; have n0_ := Aside0.mk (below_step (by repeat (first | (with_reducible first | exact HB.out | apply below_alloc | apply pw_below_drewN | apply below_drew1) | exact HB.out)) hb); clear HB; have HB := n0_; clear n0_; (try clear hb); (try clear hb2); (try clear hk); (try clear hi)) | (go_at_call 14; (with_reducible refine (dialtoneref14_Made.calls k _ _ l0 t194 _ ?side1 ?side2 A5.out).mono ?_); (case side1 => repeat (first | exact (Kd.C_below HR0.out HB.out) | (with_reducible refine Kd.C_alloc ?_ _) | (with_reducible refine Kd.C_drewN ?_ _) | (with_reducible refine Kd.C_drew ?_))); (case side2 => exact HC0.out); rintro e w11 ⟨v195, rfl, ho0, hb⟩; have n0_ := Aside0.mk (Kd.R_lower ho0 (below_size (by repeat (first | (with_reducible first | exact HB.out | apply below_alloc | apply pw_below_drewN | apply below_drew1) | exact HB.out)))); have n1_ := Aside0.mk (below_step (by repeat (first | (with_reducible first | exact HB.out | apply below_alloc | apply pw_below_drewN | apply below_drew1) | exact HB.out)) hb); clear HB; have HO196 := n0_; have HB := n1_; clear n0_ n1_; (try clear hb); (try clear hb2); (try clear hk); (try clear hi); (try clear ho0); obtain ⟨Ao12, co12, eo12⟩ := Kd.R_slice HO196.out; subst eo12) | (go_at_call 24; (with_reducible refine (dialtoneref14_Time.calls _ _ t194 a1 t197 _ ?side1 ?side2 A6.out).mono ?_); (case side1 => repeat (first | exact (Kd.R_reads' HO196.out).2.2 | (with_reducible refine Kd.C_alloc ?_ _) | (with_reducible refine Kd.C_drewN ?_ _) | (with_reducible refine Kd.C_drew ?_))); (case side2 => exact (Kd.R_reads' HO196.out).2.1); rintro e w13 ⟨rfl, hb⟩; have n0_ := Aside0.mk (Kd.R_below (by (with_reducible repeat (first | apply Kd.R_alloc | apply Kd.R_drewN | apply Kd.R_drew)); exact HO196.out) hb); have n1_ := Aside0.mk (below_step (by repeat (first | (with_reducible first | exact HB.out | apply below_alloc | apply pw_below_drewN | apply below_drew1) | exact HB.out)) hb); clear HO196; clear HB; have HO196 := n0_; have HB := n1_; clear n0_ n1_; (try clear hb); (try clear hb2); (try clear hk); (try clear hi)) | (go_at_call 19; (with_reducible refine (life_Stays.calls _ _ t194 t198 t199 _ ?side1 ?side2 A7.out).mono ?_); (case side1 => repeat (first | exact (Kd.R_reads' HO196.out).2.2 | (with_reducible refine Kd.C_alloc ?_ _) | (with_reducible refine Kd.C_drewN ?_ _) | (with_reducible refine Kd.C_drew ?_))); (case side2 => exact (Kd.R_reads' HO196.out).2.1); rintro e w14 ⟨v200, rfl, ho0, hb⟩; have n0_ := Aside0.mk (Kd.R_below (by (with_reducible repeat (first | apply Kd.R_alloc | apply Kd.R_drewN | apply Kd.R_drew)); exact HO196.out) hb); have n1_ := Aside0.mk (Kd.R_lower ho0 (below_size (by repeat (first | (with_reducible first | exact HB.out | apply below_alloc | apply pw_below_drewN | apply below_drew1) | exact HB.out)))); have n2_ := Aside0.mk (below_step (by repeat (first | (with_reducible first | exact HB.out | apply below_alloc | apply pw_below_drewN | apply below_drew1) | exact HB.out)) hb); clear HO196; clear HB; have HO196 := n0_; have HO201 := n1_; have HB := n2_; clear n0_ n1_ n2_; (try clear hb); (try clear hb2); (try clear hk); (try clear hi); (try clear ho0)) | (go_at_call 25; (with_reducible refine (life_At.calls _ _ t194 t197 t202 t203 t204 t205 t206 _ ?side1 ?side2 A8.out).mono ?_); (case side1 => repeat (first | exact (Kd.R_reads' HO196.out).2.2 | (with_reducible refine Kd.C_alloc ?_ _) | (with_reducible refine Kd.C_drewN ?_ _) | (with_reducible refine Kd.C_drew ?_))); (case side2 => exact (Kd.R_reads' HO196.out).2.1); rintro e w15 ⟨rfl, hb⟩; have n0_ := Aside0.mk (Kd.R_below (by (with_reducible repeat (first | apply Kd.R_alloc | apply Kd.R_drewN | apply Kd.R_drew)); exact HO196.out) hb); have n1_ := Aside0.mk (Kd.R_below (by (with_reducible repeat (first | apply Kd.R_alloc | apply Kd.R_drewN | apply Kd.R_drew)); exact HO201.out) hb); have n2_ := Aside0.mk (below_step (by repeat (first | (with_reducible first | exact HB.out | apply below_alloc | apply pw_below_drewN | apply below_drew1) | exact HB.out)) hb); clear HO196; clear HO201; clear HB; have HO196 := n0_; have HO201 := n1_; have HB := n2_; clear n0_ n1_ n2_; (try clear hb); (try clear hb2); (try clear hk); (try clear hi)) | ((with_reducible refine gate_dst (N := 9) rfl ?_); refine box_event ?hg (N := 9) ?hd (cs := #[.int .i64 0, .int .i64 0, .int .i64 0, .int .i64 0]) (t := 26) ?hr ?_; (case hd => rfl); (case hg => rfl); (case hr => first | (go_simp; done) | (go_simp; rfl)); intro gb207 hg w16 hbox hb; have n0_ := Aside0.mk (Kd.R_below (by (with_reducible repeat (first | apply Kd.R_alloc | apply Kd.R_drewN | apply Kd.R_drew)); exact HO196.out) hb); have n1_ := Aside0.mk (Kd.R_below (by (with_reducible repeat (first | apply Kd.R_alloc | apply Kd.R_drewN | apply Kd.R_drew)); exact HO201.out) hb); have n2_ := Aside0.mk (below_step (by repeat (first | (with_reducible first | exact HB.out | apply below_alloc | apply pw_below_drewN | apply below_drew1) | exact HB.out)) hb); have n3_ := Aside0.mk (hbox); have n4_ := Aside0.mk ((by rw [hg]; exact (below_size (by repeat (first | (with_reducible first | exact HB.out | apply below_alloc | apply pw_below_drewN | apply below_drew1) | exact HB.out))) : w.heap.size ≤ gb207)); have n5_ := Aside0.mk ((by rw [hg]; exact (below_size (by repeat (first | (with_reducible first | exact HB.out | apply below_alloc | apply pw_below_drewN | apply below_drew1) | exact HB.out))) : w.heap.size ≤ gb207)); clear HO196; clear HO201; clear HB; have HO196 := n0_; have HO201 := n1_; have HB := n2_; have BK207 := n3_; have GW207 := n4_; have GE207 := n5_; clear n0_ n1_ n2_ n3_ n4_ n5_; clear hb hbox hg; have hcz17_0 : w16.cell? ⟨gb207, 0, none⟩ = some (.int .i64 0) := (blk_cell BK207.out 0).trans rfl; have hcz17_1 : w16.cell? ⟨gb207, 1, none⟩ = some (.int .i64 0) := (blk_cell BK207.out 1).trans rfl; have hcz17_2 : w16.cell? ⟨gb207, 2, none⟩ = some (.int .i64 0) := (blk_cell BK207.out 2).trans rfl; have hcz17_3 : w16.cell? ⟨gb207, 3, none⟩ = some (.int .i64 0) := (blk_cell BK207.out 3).trans rfl; have hfz17_0 := blk_frozen BK207.out 0; have hfz17_1 := blk_frozen BK207.out 1; have hfz17_2 := blk_frozen BK207.out 2; have hfz17_3 := blk_frozen BK207.out 3))
    repeat (go_quiet (first | (go_at_call 13; (with_reducible refine (dialtonelaw14_sane.calls  true _ A3.out).mono ?_); rintro e w10 ⟨rfl, hb⟩; have n0_ := Aside0.mk (below_step (by repeat (first | (with_reducible first | exact HB.out | apply below_alloc | apply pw_below_drewN | apply below_drew1) | exact HB.out)) hb); clear HB; have HB := n0_; clear n0_; (try clear hb); (try clear hb2); (try clear hk); (try clear hi)) | (go_at_call 14; (with_reducible refine (dialtoneref14_Made.calls k _ _ l0 t194 _ ?side1 ?side2 A5.out).mono ?_); (case side1 => repeat (first | exact (Kd.C_below HR0.out HB.out) | (with_reducible refine Kd.C_alloc ?_ _) | (with_reducible refine Kd.C_drewN ?_ _) | (with_reducible refine Kd.C_drew ?_))); (case side2 => exact HC0.out); rintro e w11 ⟨v195, rfl, ho0, hb⟩; have n0_ := Aside0.mk (Kd.R_lower ho0 (below_size (by repeat (first | (with_reducible first | exact HB.out | apply below_alloc | apply pw_below_drewN | apply below_drew1) | exact HB.out)))); have n1_ := Aside0.mk (below_step (by repeat (first | (with_reducible first | exact HB.out | apply below_alloc | apply pw_below_drewN | apply below_drew1) | exact HB.out)) hb); clear HB; have HO196 := n0_; have HB := n1_; clear n0_ n1_; (try clear hb); (try clear hb2); (try clear hk); (try clear hi); (try clear ho0); obtain ⟨Ao12, co12, eo12⟩ := Kd.R_slice HO196.out; subst eo12) | (go_at_call 24; (with_reducible refine (dialtoneref14_Time.calls _ _ t194 a1 t197 _ ?side1 ?side2 A6.out).mono ?_); (case side1 => repeat (first | exact (Kd.R_reads' HO196.out).2.2 | (with_reducible refine Kd.C_alloc ?_ _) | (with_reducible refine Kd.C_drewN ?_ _) | (with_reducible refine Kd.C_drew ?_))); (case side2 => exact (Kd.R_reads' HO196.out).2.1); rintro e w13 ⟨rfl, hb⟩; have n0_ := Aside0.mk (Kd.R_below (by (with_reducible repeat (first | apply Kd.R_alloc | apply Kd.R_drewN | apply Kd.R_drew)); exact HO196.out) hb); have n1_ := Aside0.mk (below_step (by repeat (first | (with_reducible first | exact HB.out | apply below_alloc | apply pw_below_drewN | apply below_drew1) | exact HB.out)) hb); clear HO196; clear HB; have HO196 := n0_; have HB := n1_; clear n0_ n1_; (try clear hb); (try clear hb2); (try clear hk); (try clear hi)) | (go_at_call 19; (with_reducible refine (life_Stays.calls _ _ t194 t198 t199 _ ?side1 ?side2 A7.out).mono ?_); (case side1 => repeat (first | exact (Kd.R_reads' HO196.out).2.2 | (with_reducible refine Kd.C_alloc ?_ _) | (with_reducible refine Kd.C_drewN ?_ _) | (with_reducible refine Kd.C_drew ?_))); (case side2 => exact (Kd.R_reads' HO196.out).2.1); rintro e w14 ⟨v200, rfl, ho0, hb⟩; have n0_ := Aside0.mk (Kd.R_below (by (with_reducible repeat (first | apply Kd.R_alloc | apply Kd.R_drewN | apply Kd.R_drew)); exact HO196.out) hb); have n1_ := Aside0.mk (Kd.R_lower ho0 (below_size (by repeat (first | (with_reducible first | exact HB.out | apply below_alloc | apply pw_below_drewN | apply below_drew1) | exact HB.out)))); have n2_ := Aside0.mk (below_step (by repeat (first | (with_reducible first | exact HB.out | apply below_alloc | apply pw_below_drewN | apply below_drew1) | exact HB.out)) hb); clear HO196; clear HB; have HO196 := n0_; have HO201 := n1_; have HB := n2_; clear n0_ n1_ n2_; (try clear hb); (try clear hb2); (try clear hk); (try clear hi); (try clear ho0)) | (go_at_call 25; (with_reducible refine (life_At.calls _ _ t194 t197 t202 t203 t204 t205 t206 _ ?side1 ?side2 A8.out).mono ?_); (case side1 => repeat (first | exact (Kd.R_reads' HO196.out).2.2 | (with_reducible refine Kd.C_alloc ?_ _) | (with_reducible refine Kd.C_drewN ?_ _) | (with_reducible refine Kd.C_drew ?_))); (case side2 => exact (Kd.R_reads' HO196.out).2.1); rintro e w15 ⟨rfl, hb⟩; have n0_ := Aside0.mk (Kd.R_below (by (with_reducible repeat (first | apply Kd.R_alloc | apply Kd.R_drewN | apply Kd.R_drew)); exact HO196.out) hb); have n1_ := Aside0.mk (Kd.R_below (by (with_reducible repeat (first | apply Kd.R_alloc | apply Kd.R_drewN | apply Kd.R_drew)); exact HO201.out) hb); have n2_ := Aside0.mk (below_step (by repeat (first | (with_reducible first | exact HB.out | apply below_alloc | apply pw_below_drewN | apply below_drew1) | exact HB.out)) hb); clear HO196; clear HO201; clear HB; have HO196 := n0_; have HO201 := n1_; have HB := n2_; clear n0_ n1_ n2_; (try clear hb); (try clear hb2); (try clear hk); (try clear hi)) | ((with_reducible refine gate_dst (N := 9) rfl ?_); refine box_event ?hg (N := 9) ?hd (cs := #[.int .i64 0, .int .i64 0, .int .i64 0, .int .i64 0]) (t := 26) ?hr ?_; (case hd => rfl); (case hg => rfl); (case hr => first | (go_simp; done) | (go_simp; rfl)); intro gb207 hg w16 hbox hb; have n0_ := Aside0.mk (Kd.R_below (by (with_reducible repeat (first | apply Kd.R_alloc | apply Kd.R_drewN | apply Kd.R_drew)); exact HO196.out) hb); have n1_ := Aside0.mk (Kd.R_below (by (with_reducible repeat (first | apply Kd.R_alloc | apply Kd.R_drewN | apply Kd.R_drew)); exact HO201.out) hb); have n2_ := Aside0.mk (below_step (by repeat (first | (with_reducible first | exact HB.out | apply below_alloc | apply pw_below_drewN | apply below_drew1) | exact HB.out)) hb); have n3_ := Aside0.mk (hbox); have n4_ := Aside0.mk ((by rw [hg]; exact (below_size (by repeat (first | (with_reducible first | exact HB.out | apply below_alloc | apply pw_below_drewN | apply below_drew1) | exact HB.out))) : w.heap.size ≤ gb207)); have n5_ := Aside0.mk ((by rw [hg]; exact (below_size (by repeat (first | (with_reducible first | exact HB.out | apply below_alloc | apply pw_below_drewN | apply below_drew1) | exact HB.out))) : w.heap.size ≤ gb207)); clear HO196; clear HO201; clear HB; have HO196 := n0_; have HO201 := n1_; have HB := n2_; have BK207 := n3_; have GW207 := n4_; have GE207 := n5_; clear n0_ n1_ n2_ n3_ n4_ n5_; clear hb hbox hg; have hcz17_0 : w16.cell? ⟨gb207, 0, none⟩ = some (.int .i64 0) := (blk_cell BK207.out 0).trans rfl; have hcz17_1 : w16.cell? ⟨gb207, 1, none⟩ = some (.int .i64 0) := (blk_cell BK207.out 1).trans rfl; have hcz17_2 : w16.cell? ⟨gb207, 2, none⟩ = some (.int .i64 0) := (blk_cell BK207.out 2).trans rfl; have hcz17_3 : w16.cell? ⟨gb207, 3, none⟩ = some (.int .i64 0) := (blk_cell BK207.out 3).trans rfl; have hfz17_0 := blk_frozen BK207.out 0; have hfz17_1 := blk_frozen BK207.out 1; have hfz17_2 := blk_frozen BK207.out 2; have hfz17_3 := blk_frozen BK207.out 3)); go_upto_region 7 with (first | (go_at_call 13; (with_reducible refine (dialtonelaw14_sane.calls  true _ A3.out).mono ?_); rintro e w10 ⟨rfl, hb⟩; have n0_ := Aside0.mk (below_step (by repeat (first | (with_reducible first | exact HB.out | apply below_alloc | apply pw_below_drewN | apply below_drew1) | exact HB.out)) hb); clear HB; have HB := n0_; clear n0_; (try clear hb); (try clear hb2); (try clear hk); (try clear hi)) | (go_at_call 14; (with_reducible refine (dialtoneref14_Made.calls k _ _ l0 t194 _ ?side1 ?side2 A5.out).mono ?_); (case side1 => repeat (first | exact (Kd.C_below HR0.out HB.out) | (with_reducible refine Kd.C_alloc ?_ _) | (with_reducible refine Kd.C_drewN ?_ _) | (with_reducible refine Kd.C_drew ?_))); (case side2 => exact HC0.out); rintro e w11 ⟨v195, rfl, ho0, hb⟩; have n0_ := Aside0.mk (Kd.R_lower ho0 (below_size (by repeat (first | (with_reducible first | exact HB.out | apply below_alloc | apply pw_below_drewN | apply below_drew1) | exact HB.out)))); have n1_ := Aside0.mk (below_step (by repeat (first | (with_reducible first | exact HB.out | apply below_alloc | apply pw_below_drewN | apply below_drew1) | exact HB.out)) hb); clear HB; have HO196 := n0_; have HB := n1_; clear n0_ n1_; (try clear hb); (try clear hb2); (try clear hk); (try clear hi); (try clear ho0); obtain ⟨Ao12, co12, eo12⟩ := Kd.R_slice HO196.out; subst eo12) | (go_at_call 24; (with_reducible refine (dialtoneref14_Time.calls _ _ t194 a1 t197 _ ?side1 ?side2 A6.out).mono ?_); (case side1 => repeat (first | exact (Kd.R_reads' HO196.out).2.2 | (with_reducible refine Kd.C_alloc ?_ _) | (with_reducible refine Kd.C_drewN ?_ _) | (with_reducible refine Kd.C_drew ?_))); (case side2 => exact (Kd.R_reads' HO196.out).2.1); rintro e w13 ⟨rfl, hb⟩; have n0_ := Aside0.mk (Kd.R_below (by (with_reducible repeat (first | apply Kd.R_alloc | apply Kd.R_drewN | apply Kd.R_drew)); exact HO196.out) hb); have n1_ := Aside0.mk (below_step (by repeat (first | (with_reducible first | exact HB.out | apply below_alloc | apply pw_below_drewN | apply below_drew1) | exact HB.out)) hb); clear HO196; clear HB; have HO196 := n0_; have HB := n1_; clear n0_ n1_; (try clear hb); (try clear hb2); (try clear hk); (try clear hi)) | (go_at_call 19; (with_reducible refine (life_Stays.calls _ _ t194 t198 t199 _ ?side1 ?side2 A7.out).mono ?_); (case side1 => repeat (first | exact (Kd.R_reads' HO196.out).2.2 | (with_reducible refine Kd.C_alloc ?_ _) | (with_reducible refine Kd.C_drewN ?_ _) | (with_reducible refine Kd.C_drew ?_))); (case side2 => exact (Kd.R_reads' HO196.out).2.1); rintro e w14 ⟨v200, rfl, ho0, hb⟩; have n0_ := Aside0.mk (Kd.R_below (by (with_reducible repeat (first | apply Kd.R_alloc | apply Kd.R_drewN | apply Kd.R_drew)); exact HO196.out) hb); have n1_ := Aside0.mk (Kd.R_lower ho0 (below_size (by repeat (first | (with_reducible first | exact HB.out | apply below_alloc | apply pw_below_drewN | apply below_drew1) | exact HB.out)))); have n2_ := Aside0.mk (below_step (by repeat (first | (with_reducible first | exact HB.out | apply below_alloc | apply pw_below_drewN | apply below_drew1) | exact HB.out)) hb); clear HO196; clear HB; have HO196 := n0_; have HO201 := n1_; have HB := n2_; clear n0_ n1_ n2_; (try clear hb); (try clear hb2); (try clear hk); (try clear hi); (try clear ho0)) | (go_at_call 25; (with_reducible refine (life_At.calls _ _ t194 t197 t202 t203 t204 t205 t206 _ ?side1 ?side2 A8.out).mono ?_); (case side1 => repeat (first | exact (Kd.R_reads' HO196.out).2.2 | (with_reducible refine Kd.C_alloc ?_ _) | (with_reducible refine Kd.C_drewN ?_ _) | (with_reducible refine Kd.C_drew ?_))); (case side2 => exact (Kd.R_reads' HO196.out).2.1); rintro e w15 ⟨rfl, hb⟩; have n0_ := Aside0.mk (Kd.R_below (by (with_reducible repeat (first | apply Kd.R_alloc | apply Kd.R_drewN | apply Kd.R_drew)); exact HO196.out) hb); have n1_ := Aside0.mk (Kd.R_below (by (with_reducible repeat (first | apply Kd.R_alloc | apply Kd.R_drewN | apply Kd.R_drew)); exact HO201.out) hb); have n2_ := Aside0.mk (below_step (by repeat (first | (with_reducible first | exact HB.out | apply below_alloc | apply pw_below_drewN | apply below_drew1) | exact HB.out)) hb); clear HO196; clear HO201; clear HB; have HO196 := n0_; have HO201 := n1_; have HB := n2_; clear n0_ n1_ n2_; (try clear hb); (try clear hb2); (try clear hk); (try clear hi)) | ((with_reducible refine gate_dst (N := 9) rfl ?_); refine box_event ?hg (N := 9) ?hd (cs := #[.int .i64 0, .int .i64 0, .int .i64 0, .int .i64 0]) (t := 26) ?hr ?_; (case hd => rfl); (case hg => rfl); (case hr => first | (go_simp; done) | (go_simp; rfl)); intro gb207 hg w16 hbox hb; have n0_ := Aside0.mk (Kd.R_below (by (with_reducible repeat (first | apply Kd.R_alloc | apply Kd.R_drewN | apply Kd.R_drew)); exact HO196.out) hb); have n1_ := Aside0.mk (Kd.R_below (by (with_reducible repeat (first | apply Kd.R_alloc | apply Kd.R_drewN | apply Kd.R_drew)); exact HO201.out) hb); have n2_ := Aside0.mk (below_step (by repeat (first | (with_reducible first | exact HB.out | apply below_alloc | apply pw_below_drewN | apply below_drew1) | exact HB.out)) hb); have n3_ := Aside0.mk (hbox); have n4_ := Aside0.mk ((by rw [hg]; exact (below_size (by repeat (first | (with_reducible first | exact HB.out | apply below_alloc | apply pw_below_drewN | apply below_drew1) | exact HB.out))) : w.heap.size ≤ gb207)); have n5_ := Aside0.mk ((by rw [hg]; exact (below_size (by repeat (first | (with_reducible first | exact HB.out | apply below_alloc | apply pw_below_drewN | apply below_drew1) | exact HB.out))) : w.heap.size ≤ gb207)); clear HO196; clear HO201; clear HB; have HO196 := n0_; have HO201 := n1_; have HB := n2_; have BK207 := n3_; have GW207 := n4_; have GE207 := n5_; clear n0_ n1_ n2_ n3_ n4_ n5_; clear hb hbox hg; have hcz17_0 : w16.cell? ⟨gb207, 0, none⟩ = some (.int .i64 0) := (blk_cell BK207.out 0).trans rfl; have hcz17_1 : w16.cell? ⟨gb207, 1, none⟩ = some (.int .i64 0) := (blk_cell BK207.out 1).trans rfl; have hcz17_2 : w16.cell? ⟨gb207, 2, none⟩ = some (.int .i64 0) := (blk_cell BK207.out 2).trans rfl; have hcz17_3 : w16.cell? ⟨gb207, 3, none⟩ = some (.int .i64 0) := (blk_cell BK207.out 3).trans rfl; have hfz17_0 := blk_frozen BK207.out 0; have hfz17_1 := blk_frozen BK207.out 1; have hfz17_2 := blk_frozen BK207.out 2; have hfz17_3 := blk_frozen BK207.out 3)))
    (try simp only [Act.put, List.setIfInBounds_toArray, List.set_cons_zero, List.set_cons_succ])
    go_cut [38] (fun v38 wc => ∃ (kq : Nat) (x38_8 : Bool), v38 = .bool x38_8 ∧ Aside0 (dialtonelaw14_LifeStays.j0 kq t197 t198 x38_8 t202 t203 t204 t205 = some r) ∧ Aside0 (kq ≤ k) ∧ Aside0 (Kd.R k62 62 wc w.heap.size (fun _ => True) v200 t198) ∧ Aside0 (wc.heap[gb207]? = some (.cells #[.int .i64 t202, .int .i64 t203, .int .i64 t204, .int .i64 t205] 26 (0, 0))) ∧ Aside0 (Below w.heap.size w wc))
    case first =>
      have H := HC9.out
      clear HC9
      by_cases c18 : t199 = 0
      · rw [if_pos c18] at H
        have c18b0 : (t199 == 0) = true := beq_iff_eq.mpr c18
        have c18b1 : (t199 != 0) = false := bne_eq_false_iff_eq.mpr c18
        clear c18
        (first | rw [c18b0] | (simp only [i64_w, i32_w]; rw [c18b0]) | rw [c18b1] | skip)
        have H' := Aside0.mk H
        clear H
        go_wp2
        repeat (go_quiet (fail); try go_wp2)
        go_meet
        case rel => exact ⟨_, ((t206 != 0)), (by first | rfl | (simp; done) | (simp [*]; done)), H', ⟨by first | omega | exact Nat.le_refl _⟩, ⟨by (with_reducible repeat (first | apply Kd.R_alloc | apply Kd.R_drewN | apply Kd.R_drew)); exact Kd.R_mono (Kd.R_far (p := ⟨gb207, 3, none⟩) (Kd.R_far (p := ⟨gb207, 2, none⟩) (Kd.R_far (p := ⟨gb207, 1, none⟩) (Kd.R_far (p := ⟨gb207, 0, none⟩) (Kd.R_types HO201.out BK207.out (by decide)) (fun _ hk => hk.2) (.int .i64 t202)) (fun _ hk => hk.2) (.int .i64 t203)) (fun _ hk => hk.2) (.int .i64 t204)) (fun _ hk => hk.2) (.int .i64 t205)) (fun _ hk => trivial)⟩, ⟨by (with_reducible repeat (first | refine blk_drewN ?_ _ | refine blk_drew ?_ | refine blk_alloc ?_ _)); refine blk_put (cs := #[.int .i64 t202, .int .i64 t203, .int .i64 t204, .int .i64 0]) ?_ 3 _ rfl; (with_reducible repeat (first | refine blk_drewN ?_ _ | refine blk_drew ?_ | refine blk_alloc ?_ _)); refine blk_put (cs := #[.int .i64 t202, .int .i64 t203, .int .i64 0, .int .i64 0]) ?_ 2 _ rfl; (with_reducible repeat (first | refine blk_drewN ?_ _ | refine blk_drew ?_ | refine blk_alloc ?_ _)); refine blk_put (cs := #[.int .i64 t202, .int .i64 0, .int .i64 0, .int .i64 0]) ?_ 1 _ rfl; (with_reducible repeat (first | refine blk_drewN ?_ _ | refine blk_drew ?_ | refine blk_alloc ?_ _)); refine blk_put (cs := #[.int .i64 0, .int .i64 0, .int .i64 0, .int .i64 0]) ?_ 0 _ rfl; (with_reducible repeat (first | refine blk_drewN ?_ _ | refine blk_drew ?_ | refine blk_alloc ?_ _)); exact BK207.out⟩, ⟨by repeat (first | (with_reducible first | exact HB.out | apply below_alloc | apply pw_below_drewN | apply below_drew1 | refine below_set ?_ GE207.out) | exact HB.out)⟩⟩
      · rw [if_neg c18] at H
        have c18b0 : (t199 == 0) = false := beq_eq_false_iff_ne.mpr c18
        have c18b1 : (t199 != 0) = true := bne_iff_ne.mpr c18
        (first | rw [c18b0] | (simp only [i64_w, i32_w]; rw [c18b0]) | rw [c18b1] | skip)
        have H' := Aside0.mk H
        clear H
        go_wp2
        repeat (go_quiet (fail); try go_wp2)
        go_meet
        case rel => exact ⟨_, (true), (by first | rfl | (simp; done) | (simp [*]; done)), H', ⟨by first | omega | exact Nat.le_refl _⟩, ⟨by (with_reducible repeat (first | apply Kd.R_alloc | apply Kd.R_drewN | apply Kd.R_drew)); exact Kd.R_mono (Kd.R_far (p := ⟨gb207, 3, none⟩) (Kd.R_far (p := ⟨gb207, 2, none⟩) (Kd.R_far (p := ⟨gb207, 1, none⟩) (Kd.R_far (p := ⟨gb207, 0, none⟩) (Kd.R_types HO201.out BK207.out (by decide)) (fun _ hk => hk.2) (.int .i64 t202)) (fun _ hk => hk.2) (.int .i64 t203)) (fun _ hk => hk.2) (.int .i64 t204)) (fun _ hk => hk.2) (.int .i64 t205)) (fun _ hk => trivial)⟩, ⟨by (with_reducible repeat (first | refine blk_drewN ?_ _ | refine blk_drew ?_ | refine blk_alloc ?_ _)); refine blk_put (cs := #[.int .i64 t202, .int .i64 t203, .int .i64 t204, .int .i64 0]) ?_ 3 _ rfl; (with_reducible repeat (first | refine blk_drewN ?_ _ | refine blk_drew ?_ | refine blk_alloc ?_ _)); refine blk_put (cs := #[.int .i64 t202, .int .i64 t203, .int .i64 0, .int .i64 0]) ?_ 2 _ rfl; (with_reducible repeat (first | refine blk_drewN ?_ _ | refine blk_drew ?_ | refine blk_alloc ?_ _)); refine blk_put (cs := #[.int .i64 t202, .int .i64 0, .int .i64 0, .int .i64 0]) ?_ 1 _ rfl; (with_reducible repeat (first | refine blk_drewN ?_ _ | refine blk_drew ?_ | refine blk_alloc ?_ _)); refine blk_put (cs := #[.int .i64 0, .int .i64 0, .int .i64 0, .int .i64 0]) ?_ 0 _ rfl; (with_reducible repeat (first | refine blk_drewN ?_ _ | refine blk_drew ?_ | refine blk_alloc ?_ _)); exact BK207.out⟩, ⟨by repeat (first | (with_reducible first | exact HB.out | apply below_alloc | apply pw_below_drewN | apply below_drew1 | refine below_set ?_ GE207.out) | exact HB.out)⟩⟩
    case rest =>
      clear HC9
      try clear c1
      try clear p2
      try clear c4
      try clear c8
      try clear c18
      try clear c18b0
      try clear c18b1
      try clear hcz17_0
      try clear hcz17_1
      try clear hcz17_2
      try clear hcz17_3
      try clear hfz17_0
      try clear hfz17_1
      try clear hfz17_2
      try clear hfz17_3
      obtain ⟨kq, x38_8, rfl, HA, HJ8, HO_7, BK207, HB⟩ := hcut
      cases kq with
      | zero => exact absurd HA.out (by simp [dialtonelaw14_LifeStays.j0])
      | succ kj8 =>
        have H := HA.out
        clear HA
        simp only [dialtonelaw14_LifeStays.j0] at H
        by_cases c19 : x38_8 = true
        · subst c19
          have H1 : (some false) = some r := by rw [if_pos rfl] at H; exact H
          clear H
          have H := H1
          clear H1
          obtain rfl := Option.some.inj H
          go_wp2
          repeat (go_quiet (fail); try go_wp2)
          go_ret
          exact ⟨by first | rfl | (simp [errW_none, errW_some] <;> rfl) | (simp [*, errW_none, errW_some] <;> rfl), by repeat (first | (with_reducible first | exact HB.out | apply below_alloc | apply pw_below_drewN | apply below_drew1 | refine below_set ?_ GE207.out) | exact HB.out)⟩
        · replace c19 := Bool.eq_false_iff.mpr c19
          subst c19
          have H1 : (dialtonelaw14_LifeStays.l0 kj8 t197 t198 0 0 t202 t203 t204 t205) = some r := by rw [if_neg (show ¬ (false = true) by decide)] at H; exact H
          clear H
          have H := H1
          clear H1
          have H' := Aside0.mk H
          clear H
          go_wp2
          repeat (go_quiet (fail); try go_wp2)
          go_loopg [11, 12] kj8 (fun kq v11 v12 w' => ∃ (x11_2 : Int) (x12_2 : Int), v11 = .int .i64 x11_2 ∧ v12 = .int .i64 x12_2 ∧ Aside0 (dialtonelaw14_LifeStays.l0 kq t197 t198 x11_2 x12_2 t202 t203 t204 t205 = some r) ∧ Aside0 (kq ≤ kj8) ∧ Aside0 (Kd.R k62 62 w' w.heap.size (fun _ => True) v200 t198) ∧ Aside0 (w'.heap[gb207]? = some (.cells #[.int .i64 t202, .int .i64 t203, .int .i64 t204, .int .i64 t205] 26 (0, 0))) ∧ Aside0 (Below w.heap.size w w'))
          case atStart => exact ⟨(0), (0), (by first | rfl | (simp; done) | (simp [*]; done)), (by first | rfl | (simp; done) | (simp [*]; done)), H', ⟨Nat.le_refl _⟩, ⟨by (with_reducible repeat (first | apply Kd.R_alloc | apply Kd.R_drewN | apply Kd.R_drew)); exact HO_7.out⟩, ⟨by (with_reducible repeat (first | refine blk_drewN ?_ _ | refine blk_drew ?_ | refine blk_alloc ?_ _)); exact BK207.out⟩, ⟨by repeat (first | (with_reducible first | exact HB.out | apply below_alloc | apply pw_below_drewN | apply below_drew1 | refine below_set ?_ GE207.out) | exact HB.out)⟩⟩
          case round =>
            clear H'
            try clear c1
            try clear p2
            try clear c4
            try clear c8
            try clear c18
            try clear c18b0
            try clear c18b1
            try clear c19
            try clear hcz17_0
            try clear hcz17_1
            try clear hcz17_2
            try clear hcz17_3
            try clear hfz17_0
            try clear hfz17_1
            try clear hfz17_2
            try clear hfz17_3
            try clear p2
            obtain ⟨x11_2, x12_2, rfl, rfl, HA, HK2, HO_7, BK207, HB⟩ := hrel
            cases gk with
            | zero => exact absurd HA.out (by simp [dialtonelaw14_LifeStays.l0])
            | succ k2 =>
              have H := HA.out
              clear HA
              simp only [dialtonelaw14_LifeStays.l0] at H
              by_cases c20 : x12_2 < (t198.length : Int)
              · rw [if_pos c20] at H
                have c20b0 : decide (x12_2 < (t198.length : Int)) = true := decide_eq_true c20
                clear c20
                by_cases c21 : 0 ≤ x12_2
                · rw [if_pos c21] at H
                  have c21b0 : decide (0 ≤ x12_2) = true := decide_eq_true c21
                  clear c21
                  have HC22 := Aside0.mk H
                  clear H
                  obtain ⟨Ao23, co23, eo23⟩ := Kd.R_slice HO_7.out
                  subst eo23
                  have p208 : 0 ≤ (x12_2 : Int) := of_decide_eq_true (by first | (with_reducible assumption) | assumption)
                  have q208 : x12_2 < (t198.length : Int) := of_decide_eq_true (by first | (with_reducible assumption) | assumption)
                  obtain ⟨ad208, e208, hx208_0, hx208_1, hx208_2, hx208_3⟩ := at_T62 (Kd.R_reads' HO_7.out).2.2 x12_2 p208 q208
                  cases e208
                  replace p208 := eq_true p208
                  replace q208 := eq_true q208
                  go_upto_region 14 with (first | ((with_reducible refine gate_dst (N := 13) rfl ?_); refine box_event ?hg (N := 13) ?hd (cs := #[.int .i64 0, .int .i64 0]) (t := 60) ?hr ?_; (case hd => rfl); (case hg => rfl); (case hr => first | (go_simp; done) | (go_simp; rfl)); intro gb209 hg w24 hbox hb; have n0_ := Aside0.mk (Kd.R_below (by (with_reducible repeat (first | apply Kd.R_alloc | apply Kd.R_drewN | apply Kd.R_drew)); exact HO_7.out) hb); have n1_ := Aside0.mk (blk_below (g := gb207) (o := .cells #[.int .i64 t202, .int .i64 t203, .int .i64 t204, .int .i64 t205] 26 (0, 0)) (by (with_reducible repeat (first | refine blk_drewN ?_ _ | refine blk_drew ?_ | refine blk_alloc ?_ _)); exact BK207.out) hb); have n2_ := Aside0.mk (below_step (by repeat (first | (with_reducible first | exact HB.out | apply below_alloc | apply pw_below_drewN | apply below_drew1 | refine below_set ?_ GE207.out) | exact HB.out)) hb); have n3_ := Aside0.mk (hbox); have n4_ := Aside0.mk ((by rw [hg]; exact (below_size (by repeat (first | (with_reducible first | exact HB.out | apply below_alloc | apply pw_below_drewN | apply below_drew1 | refine below_set ?_ GE207.out) | exact HB.out))) : w.heap.size ≤ gb209)); have n5_ := Aside0.mk ((by rw [hg]; exact (below_size (by repeat (first | (with_reducible first | exact HB.out | apply below_alloc | apply pw_below_drewN | apply below_drew1 | refine below_set ?_ GE207.out) | exact HB.out))) : w.heap.size ≤ gb209)); have n6_ := Aside0.mk ((by rw [hg]; exact Nat.ne_of_lt (blk_lt (g := gb207) (o := .cells #[.int .i64 t202, .int .i64 t203, .int .i64 t204, .int .i64 t205] 26 (0, 0)) (by (with_reducible repeat (first | refine blk_drewN ?_ _ | refine blk_drew ?_ | refine blk_alloc ?_ _)); exact BK207.out)) : gb207 ≠ gb209)); have n7_ := Aside0.mk ((by rw [hg]; exact Nat.ne_of_gt (blk_lt (g := gb207) (o := .cells #[.int .i64 t202, .int .i64 t203, .int .i64 t204, .int .i64 t205] 26 (0, 0)) (by (with_reducible repeat (first | refine blk_drewN ?_ _ | refine blk_drew ?_ | refine blk_alloc ?_ _)); exact BK207.out)) : gb209 ≠ gb207)); clear HO_7; clear BK207; clear HB; have HO_7 := n0_; have BK207 := n1_; have HB := n2_; have BK209 := n3_; have GW209 := n4_; have GE209 := n5_; have NB207_209 := n6_; have NB209_207 := n7_; clear n0_ n1_ n2_ n3_ n4_ n5_ n6_ n7_; clear hb hbox hg; have hnb25 := NB209_207.out; have hnc25 := NB207_209.out; have hcz26_0 : w24.cell? ⟨gb209, 0, none⟩ = some (.int .i64 0) := (blk_cell BK209.out 0).trans rfl; have hcz26_1 : w24.cell? ⟨gb209, 1, none⟩ = some (.int .i64 0) := (blk_cell BK209.out 1).trans rfl; have hfz26_0 := blk_frozen BK209.out 0; have hfz26_1 := blk_frozen BK209.out 1))
                  repeat (go_quiet (first | ((with_reducible refine gate_dst (N := 13) rfl ?_); refine box_event ?hg (N := 13) ?hd (cs := #[.int .i64 0, .int .i64 0]) (t := 60) ?hr ?_; (case hd => rfl); (case hg => rfl); (case hr => first | (go_simp; done) | (go_simp; rfl)); intro gb209 hg w24 hbox hb; have n0_ := Aside0.mk (Kd.R_below (by (with_reducible repeat (first | apply Kd.R_alloc | apply Kd.R_drewN | apply Kd.R_drew)); exact HO_7.out) hb); have n1_ := Aside0.mk (blk_below (g := gb207) (o := .cells #[.int .i64 t202, .int .i64 t203, .int .i64 t204, .int .i64 t205] 26 (0, 0)) (by (with_reducible repeat (first | refine blk_drewN ?_ _ | refine blk_drew ?_ | refine blk_alloc ?_ _)); exact BK207.out) hb); have n2_ := Aside0.mk (below_step (by repeat (first | (with_reducible first | exact HB.out | apply below_alloc | apply pw_below_drewN | apply below_drew1 | refine below_set ?_ GE207.out) | exact HB.out)) hb); have n3_ := Aside0.mk (hbox); have n4_ := Aside0.mk ((by rw [hg]; exact (below_size (by repeat (first | (with_reducible first | exact HB.out | apply below_alloc | apply pw_below_drewN | apply below_drew1 | refine below_set ?_ GE207.out) | exact HB.out))) : w.heap.size ≤ gb209)); have n5_ := Aside0.mk ((by rw [hg]; exact (below_size (by repeat (first | (with_reducible first | exact HB.out | apply below_alloc | apply pw_below_drewN | apply below_drew1 | refine below_set ?_ GE207.out) | exact HB.out))) : w.heap.size ≤ gb209)); have n6_ := Aside0.mk ((by rw [hg]; exact Nat.ne_of_lt (blk_lt (g := gb207) (o := .cells #[.int .i64 t202, .int .i64 t203, .int .i64 t204, .int .i64 t205] 26 (0, 0)) (by (with_reducible repeat (first | refine blk_drewN ?_ _ | refine blk_drew ?_ | refine blk_alloc ?_ _)); exact BK207.out)) : gb207 ≠ gb209)); have n7_ := Aside0.mk ((by rw [hg]; exact Nat.ne_of_gt (blk_lt (g := gb207) (o := .cells #[.int .i64 t202, .int .i64 t203, .int .i64 t204, .int .i64 t205] 26 (0, 0)) (by (with_reducible repeat (first | refine blk_drewN ?_ _ | refine blk_drew ?_ | refine blk_alloc ?_ _)); exact BK207.out)) : gb209 ≠ gb207)); clear HO_7; clear BK207; clear HB; have HO_7 := n0_; have BK207 := n1_; have HB := n2_; have BK209 := n3_; have GW209 := n4_; have GE209 := n5_; have NB207_209 := n6_; have NB209_207 := n7_; clear n0_ n1_ n2_ n3_ n4_ n5_ n6_ n7_; clear hb hbox hg; have hnb25 := NB209_207.out; have hnc25 := NB207_209.out; have hcz26_0 : w24.cell? ⟨gb209, 0, none⟩ = some (.int .i64 0) := (blk_cell BK209.out 0).trans rfl; have hcz26_1 : w24.cell? ⟨gb209, 1, none⟩ = some (.int .i64 0) := (blk_cell BK209.out 1).trans rfl; have hfz26_0 := blk_frozen BK209.out 0; have hfz26_1 := blk_frozen BK209.out 1)); go_upto_region 14 with (first | ((with_reducible refine gate_dst (N := 13) rfl ?_); refine box_event ?hg (N := 13) ?hd (cs := #[.int .i64 0, .int .i64 0]) (t := 60) ?hr ?_; (case hd => rfl); (case hg => rfl); (case hr => first | (go_simp; done) | (go_simp; rfl)); intro gb209 hg w24 hbox hb; have n0_ := Aside0.mk (Kd.R_below (by (with_reducible repeat (first | apply Kd.R_alloc | apply Kd.R_drewN | apply Kd.R_drew)); exact HO_7.out) hb); have n1_ := Aside0.mk (blk_below (g := gb207) (o := .cells #[.int .i64 t202, .int .i64 t203, .int .i64 t204, .int .i64 t205] 26 (0, 0)) (by (with_reducible repeat (first | refine blk_drewN ?_ _ | refine blk_drew ?_ | refine blk_alloc ?_ _)); exact BK207.out) hb); have n2_ := Aside0.mk (below_step (by repeat (first | (with_reducible first | exact HB.out | apply below_alloc | apply pw_below_drewN | apply below_drew1 | refine below_set ?_ GE207.out) | exact HB.out)) hb); have n3_ := Aside0.mk (hbox); have n4_ := Aside0.mk ((by rw [hg]; exact (below_size (by repeat (first | (with_reducible first | exact HB.out | apply below_alloc | apply pw_below_drewN | apply below_drew1 | refine below_set ?_ GE207.out) | exact HB.out))) : w.heap.size ≤ gb209)); have n5_ := Aside0.mk ((by rw [hg]; exact (below_size (by repeat (first | (with_reducible first | exact HB.out | apply below_alloc | apply pw_below_drewN | apply below_drew1 | refine below_set ?_ GE207.out) | exact HB.out))) : w.heap.size ≤ gb209)); have n6_ := Aside0.mk ((by rw [hg]; exact Nat.ne_of_lt (blk_lt (g := gb207) (o := .cells #[.int .i64 t202, .int .i64 t203, .int .i64 t204, .int .i64 t205] 26 (0, 0)) (by (with_reducible repeat (first | refine blk_drewN ?_ _ | refine blk_drew ?_ | refine blk_alloc ?_ _)); exact BK207.out)) : gb207 ≠ gb209)); have n7_ := Aside0.mk ((by rw [hg]; exact Nat.ne_of_gt (blk_lt (g := gb207) (o := .cells #[.int .i64 t202, .int .i64 t203, .int .i64 t204, .int .i64 t205] 26 (0, 0)) (by (with_reducible repeat (first | refine blk_drewN ?_ _ | refine blk_drew ?_ | refine blk_alloc ?_ _)); exact BK207.out)) : gb209 ≠ gb207)); clear HO_7; clear BK207; clear HB; have HO_7 := n0_; have BK207 := n1_; have HB := n2_; have BK209 := n3_; have GW209 := n4_; have GE209 := n5_; have NB207_209 := n6_; have NB209_207 := n7_; clear n0_ n1_ n2_ n3_ n4_ n5_ n6_ n7_; clear hb hbox hg; have hnb25 := NB209_207.out; have hnc25 := NB207_209.out; have hcz26_0 : w24.cell? ⟨gb209, 0, none⟩ = some (.int .i64 0) := (blk_cell BK209.out 0).trans rfl; have hcz26_1 : w24.cell? ⟨gb209, 1, none⟩ = some (.int .i64 0) := (blk_cell BK209.out 1).trans rfl; have hfz26_0 := blk_frozen BK209.out 0; have hfz26_1 := blk_frozen BK209.out 1)))
                  (try simp only [Act.put, List.setIfInBounds_toArray, List.set_cons_zero, List.set_cons_succ])
                  go_cut [106] (fun v106 wc => ∃ (kq : Nat) (x106_21 : Bool), v106 = .bool x106_21 ∧ Aside0 (dialtonelaw14_LifeStays.j2 kq t197 t198 x11_2 x12_2 x106_21 t202 t203 t204 t205 ((rd_T62 t198 x12_2).f2.f0) ((rd_T62 t198 x12_2).f2.f1) = some r) ∧ Aside0 (kq ≤ k2) ∧ Aside0 (Kd.R k62 62 wc w.heap.size (fun _ => True) (.slice (some ad208) t198.length co23) t198) ∧ Aside0 (wc.heap[gb207]? = some (.cells #[.int .i64 t202, .int .i64 t203, .int .i64 t204, .int .i64 t205] 26 (0, 0))) ∧ Aside0 (wc.heap[gb209]? = some (.cells #[.int .i64 ((rd_T62 t198 x12_2).f2.f0), .int .i64 ((rd_T62 t198 x12_2).f2.f1)] 60 (0, 0))) ∧ Aside0 (Below w.heap.size w wc))
                  case first =>
                    have H := HC22.out
                    clear HC22
                    by_cases c27 : ((rd_T62 t198 x12_2).f2.f0) < 0
                    · rw [if_pos c27] at H
                      have c27b0 : decide (((rd_T62 t198 x12_2).f2.f0) < 0) = true := decide_eq_true c27
                      clear c27
                      (first | rw [c27b0] | (simp only [i64_w, i32_w]; rw [c27b0]) | rw [c27b1] | skip)
                      have H' := Aside0.mk H
                      clear H
                      have hnb28 := NB209_207.out
                      have hnc28 := NB207_209.out
                      have hcz29_0 : w24.cell? ⟨gb209, 0, none⟩ = some (.int .i64 0) := (blk_cell BK209.out 0).trans rfl
                      have hcz29_1 : w24.cell? ⟨gb209, 1, none⟩ = some (.int .i64 0) := (blk_cell BK209.out 1).trans rfl
                      have hfz29_0 := blk_frozen BK209.out 0
                      have hfz29_1 := blk_frozen BK209.out 1
                      go_wp2
                      repeat (go_quiet (fail); try go_wp2)
                      go_meet
                      case rel => exact ⟨_, (true), (by first | rfl | (simp; done) | (simp [*]; done)), H', ⟨by have := HJ8.out; have := HK2.out; first | omega | exact Nat.le_refl _⟩, ⟨by (with_reducible repeat (first | apply Kd.R_alloc | apply Kd.R_drewN | apply Kd.R_drew)); exact Kd.R_mono (Kd.R_far (p := ⟨gb209, 1, none⟩) (Kd.R_far (p := ⟨gb209, 0, none⟩) (Kd.R_types HO_7.out BK209.out (by decide)) (fun _ hk => hk.2) (.int .i64 ((rd_T62 t198 x12_2).f2.f0))) (fun _ hk => hk.2) (.int .i64 ((rd_T62 t198 x12_2).f2.f1))) (fun _ hk => trivial)⟩, ⟨by (with_reducible repeat (first | refine blk_drewN ?_ _ | refine blk_drew ?_ | refine blk_alloc ?_ _)); refine blk_far ?_ NB207_209.out _; (with_reducible repeat (first | refine blk_drewN ?_ _ | refine blk_drew ?_ | refine blk_alloc ?_ _)); refine blk_far ?_ NB207_209.out _; (with_reducible repeat (first | refine blk_drewN ?_ _ | refine blk_drew ?_ | refine blk_alloc ?_ _)); exact BK207.out⟩, ⟨by (with_reducible repeat (first | refine blk_drewN ?_ _ | refine blk_drew ?_ | refine blk_alloc ?_ _)); refine blk_put (cs := #[.int .i64 ((rd_T62 t198 x12_2).f2.f0), .int .i64 0]) ?_ 1 _ rfl; (with_reducible repeat (first | refine blk_drewN ?_ _ | refine blk_drew ?_ | refine blk_alloc ?_ _)); refine blk_put (cs := #[.int .i64 0, .int .i64 0]) ?_ 0 _ rfl; (with_reducible repeat (first | refine blk_drewN ?_ _ | refine blk_drew ?_ | refine blk_alloc ?_ _)); exact BK209.out⟩, ⟨by repeat (first | (with_reducible first | exact HB.out | apply below_alloc | apply pw_below_drewN | apply below_drew1 | refine below_set ?_ GE207.out | refine below_set ?_ GE209.out) | exact HB.out)⟩⟩
                    · rw [if_neg c27] at H
                      have c27b0 : decide (((rd_T62 t198 x12_2).f2.f0) < 0) = false := decide_eq_false c27
                      clear c27
                      (first | rw [c27b0] | (simp only [i64_w, i32_w]; rw [c27b0]) | rw [c27b1] | skip)
                      by_cases c30 : ((rd_T62 t198 x12_2).f2.f0) ≥ ((rd_T62 t198 x12_2).f2.f1)
                      · rw [if_pos c30] at H
                        have c30b0 : decide (((rd_T62 t198 x12_2).f2.f1) ≤ ((rd_T62 t198 x12_2).f2.f0)) = true := decide_eq_true c30
                        clear c30
                        have H' := Aside0.mk H
                        clear H
                        have hnb31 := NB209_207.out
                        have hnc31 := NB207_209.out
                        have hcz32_0 : w24.cell? ⟨gb209, 0, none⟩ = some (.int .i64 0) := (blk_cell BK209.out 0).trans rfl
                        have hcz32_1 : w24.cell? ⟨gb209, 1, none⟩ = some (.int .i64 0) := (blk_cell BK209.out 1).trans rfl
                        have hfz32_0 := blk_frozen BK209.out 0
                        have hfz32_1 := blk_frozen BK209.out 1
                        go_wp2
                        repeat (go_quiet (fail); try go_wp2)
                        go_meet
                        case rel => exact ⟨_, (true), (by first | rfl | (simp; done) | (simp [*]; done)), H', ⟨by have := HJ8.out; have := HK2.out; first | omega | exact Nat.le_refl _⟩, ⟨by (with_reducible repeat (first | apply Kd.R_alloc | apply Kd.R_drewN | apply Kd.R_drew)); exact Kd.R_mono (Kd.R_far (p := ⟨gb209, 1, none⟩) (Kd.R_far (p := ⟨gb209, 0, none⟩) (Kd.R_types HO_7.out BK209.out (by decide)) (fun _ hk => hk.2) (.int .i64 ((rd_T62 t198 x12_2).f2.f0))) (fun _ hk => hk.2) (.int .i64 ((rd_T62 t198 x12_2).f2.f1))) (fun _ hk => trivial)⟩, ⟨by (with_reducible repeat (first | refine blk_drewN ?_ _ | refine blk_drew ?_ | refine blk_alloc ?_ _)); refine blk_far ?_ NB207_209.out _; (with_reducible repeat (first | refine blk_drewN ?_ _ | refine blk_drew ?_ | refine blk_alloc ?_ _)); refine blk_far ?_ NB207_209.out _; (with_reducible repeat (first | refine blk_drewN ?_ _ | refine blk_drew ?_ | refine blk_alloc ?_ _)); exact BK207.out⟩, ⟨by (with_reducible repeat (first | refine blk_drewN ?_ _ | refine blk_drew ?_ | refine blk_alloc ?_ _)); refine blk_put (cs := #[.int .i64 ((rd_T62 t198 x12_2).f2.f0), .int .i64 0]) ?_ 1 _ rfl; (with_reducible repeat (first | refine blk_drewN ?_ _ | refine blk_drew ?_ | refine blk_alloc ?_ _)); refine blk_put (cs := #[.int .i64 0, .int .i64 0]) ?_ 0 _ rfl; (with_reducible repeat (first | refine blk_drewN ?_ _ | refine blk_drew ?_ | refine blk_alloc ?_ _)); exact BK209.out⟩, ⟨by repeat (first | (with_reducible first | exact HB.out | apply below_alloc | apply pw_below_drewN | apply below_drew1 | refine below_set ?_ GE207.out | refine below_set ?_ GE209.out) | exact HB.out)⟩⟩
                      · rw [if_neg c30] at H
                        have c30b0 : decide (((rd_T62 t198 x12_2).f2.f1) ≤ ((rd_T62 t198 x12_2).f2.f0)) = false := decide_eq_false c30
                        clear c30
                        by_cases c33 : ((rd_T62 t198 x12_2).f2.f1) > 10000001
                        · rw [if_pos c33] at H
                          have c33b0 : decide (10000001 < ((rd_T62 t198 x12_2).f2.f1)) = true := decide_eq_true c33
                          clear c33
                          have H' := Aside0.mk H
                          clear H
                          have hnb34 := NB209_207.out
                          have hnc34 := NB207_209.out
                          have hcz35_0 : w24.cell? ⟨gb209, 0, none⟩ = some (.int .i64 0) := (blk_cell BK209.out 0).trans rfl
                          have hcz35_1 : w24.cell? ⟨gb209, 1, none⟩ = some (.int .i64 0) := (blk_cell BK209.out 1).trans rfl
                          have hfz35_0 := blk_frozen BK209.out 0
                          have hfz35_1 := blk_frozen BK209.out 1
                          go_wp2
                          repeat (go_quiet (fail); try go_wp2)
                          go_meet
                          case rel => exact ⟨_, (true), (by first | rfl | (simp; done) | (simp [*]; done)), H', ⟨by have := HJ8.out; have := HK2.out; first | omega | exact Nat.le_refl _⟩, ⟨by (with_reducible repeat (first | apply Kd.R_alloc | apply Kd.R_drewN | apply Kd.R_drew)); exact Kd.R_mono (Kd.R_far (p := ⟨gb209, 1, none⟩) (Kd.R_far (p := ⟨gb209, 0, none⟩) (Kd.R_types HO_7.out BK209.out (by decide)) (fun _ hk => hk.2) (.int .i64 ((rd_T62 t198 x12_2).f2.f0))) (fun _ hk => hk.2) (.int .i64 ((rd_T62 t198 x12_2).f2.f1))) (fun _ hk => trivial)⟩, ⟨by (with_reducible repeat (first | refine blk_drewN ?_ _ | refine blk_drew ?_ | refine blk_alloc ?_ _)); refine blk_far ?_ NB207_209.out _; (with_reducible repeat (first | refine blk_drewN ?_ _ | refine blk_drew ?_ | refine blk_alloc ?_ _)); refine blk_far ?_ NB207_209.out _; (with_reducible repeat (first | refine blk_drewN ?_ _ | refine blk_drew ?_ | refine blk_alloc ?_ _)); exact BK207.out⟩, ⟨by (with_reducible repeat (first | refine blk_drewN ?_ _ | refine blk_drew ?_ | refine blk_alloc ?_ _)); refine blk_put (cs := #[.int .i64 ((rd_T62 t198 x12_2).f2.f0), .int .i64 0]) ?_ 1 _ rfl; (with_reducible repeat (first | refine blk_drewN ?_ _ | refine blk_drew ?_ | refine blk_alloc ?_ _)); refine blk_put (cs := #[.int .i64 0, .int .i64 0]) ?_ 0 _ rfl; (with_reducible repeat (first | refine blk_drewN ?_ _ | refine blk_drew ?_ | refine blk_alloc ?_ _)); exact BK209.out⟩, ⟨by repeat (first | (with_reducible first | exact HB.out | apply below_alloc | apply pw_below_drewN | apply below_drew1 | refine below_set ?_ GE207.out | refine below_set ?_ GE209.out) | exact HB.out)⟩⟩
                        · rw [if_neg c33] at H
                          have c33b0 : decide (10000001 < ((rd_T62 t198 x12_2).f2.f1)) = false := decide_eq_false c33
                          clear c33
                          by_cases c36 : x12_2 > 0
                          · rw [if_pos c36] at H
                            have c36b0 : decide (0 < x12_2) = true := decide_eq_true c36
                            clear c36
                            obtain ⟨ji37, hji37⟩ : ∃ j_ : Int, (wrap64 (x12_2 - 1)) = j_ := ⟨_, rfl⟩
                            replace H : (if 0 ≤ (ji37) then (if (ji37) < (t198.length : Int) then (if ((rd_T62 t198 x12_2).f2.f0) < ((rd_T62 t198 (ji37)).f2.f1) then (dialtonelaw14_LifeStays.j2 k2 t197 t198 x11_2 x12_2 true t202 t203 t204 t205 ((rd_T62 t198 x12_2).f2.f0) ((rd_T62 t198 x12_2).f2.f1)) else (if ((rd_T62 t198 x12_2).f2.f0) = ((rd_T62 t198 (ji37)).f2.f1) then (dialtonelaw14_LifeStays.j2 k2 t197 t198 x11_2 x12_2 (((rd_T62 t198 x12_2).f1) == ((rd_T62 t198 (ji37)).f1)) t202 t203 t204 t205 ((rd_T62 t198 x12_2).f2.f0) ((rd_T62 t198 x12_2).f2.f1)) else (dialtonelaw14_LifeStays.j2 k2 t197 t198 x11_2 x12_2 false t202 t203 t204 t205 ((rd_T62 t198 x12_2).f2.f0) ((rd_T62 t198 x12_2).f2.f1)))) else (none)) else (none)) = some r := by first | (rw [hji37] at H; exact H) | (simp only [hji37] at H ⊢; exact H)
                            have hji37w : (IntKind.i64.wrap (x12_2 - 1)) = ji37 := (i64_w _).trans hji37
                            by_cases c38 : 0 ≤ (ji37)
                            · rw [if_pos c38] at H
                              have c38b0 : decide (0 ≤ (ji37)) = true := decide_eq_true c38
                              clear c38
                              by_cases c39 : (ji37) < (t198.length : Int)
                              · rw [if_pos c39] at H
                                have c39b0 : decide ((ji37) < (t198.length : Int)) = true := decide_eq_true c39
                                clear c39
                                by_cases c40 : ((rd_T62 t198 x12_2).f2.f0) < ((rd_T62 t198 (ji37)).f2.f1)
                                · rw [if_pos c40] at H
                                  have c40b0 : decide (((rd_T62 t198 x12_2).f2.f0) < ((rd_T62 t198 (ji37)).f2.f1)) = true := decide_eq_true c40
                                  clear c40
                                  have H' := Aside0.mk H
                                  clear H
                                  have hnb41 := NB209_207.out
                                  have hnc41 := NB207_209.out
                                  have hcz42_0 : w24.cell? ⟨gb209, 0, none⟩ = some (.int .i64 0) := (blk_cell BK209.out 0).trans rfl
                                  have hcz42_1 : w24.cell? ⟨gb209, 1, none⟩ = some (.int .i64 0) := (blk_cell BK209.out 1).trans rfl
                                  have hfz42_0 := blk_frozen BK209.out 0
                                  have hfz42_1 := blk_frozen BK209.out 1
                                  have p210 : 0 ≤ ((ji37) : Int) := of_decide_eq_true (by first | (with_reducible assumption) | assumption)
                                  have q210 : (ji37) < (t198.length : Int) := of_decide_eq_true (by first | (with_reducible assumption) | assumption)
                                  obtain ⟨ad210, e210, hx210_0, hx210_1, hx210_2, hx210_3⟩ := at_T62 (Kd.R_reads' HO_7.out).2.2 (ji37) p210 q210
                                  obtain rfl : ad208 = ad210 := (by injection e210)
                                  have hn210_0 : ad208.block ≠ gb209 := Kd.own_blk (Kd.R_ne HO_7.out BK209.out (by decide))
                                  have hn210_1 : ad208.block ≠ gb209 := Kd.own_blk (Kd.R_ne HO_7.out BK209.out (by decide))
                                  replace hx210_0 := (cell_far (p := ⟨gb209, 0, none⟩) (by first | (rw [add_block]; exact hn210_0) | (show (Addr.add _ _).block ≠ _; rw [add_block]; exact hn210_0) | exact hn210_0) (.int .i64 ((rd_T62 t198 x12_2).f2.f0))).trans hx210_0
                                  replace hx210_1 := (cell_far (p := ⟨gb209, 0, none⟩) (by first | (rw [add_block]; exact hn210_0) | (show (Addr.add _ _).block ≠ _; rw [add_block]; exact hn210_0) | exact hn210_0) (.int .i64 ((rd_T62 t198 x12_2).f2.f0))).trans hx210_1
                                  replace hx210_2 := (cell_far (p := ⟨gb209, 0, none⟩) (by first | (rw [add_block]; exact hn210_0) | (show (Addr.add _ _).block ≠ _; rw [add_block]; exact hn210_0) | exact hn210_0) (.int .i64 ((rd_T62 t198 x12_2).f2.f0))).trans hx210_2
                                  replace hx210_3 := (cell_far (p := ⟨gb209, 0, none⟩) (by first | (rw [add_block]; exact hn210_0) | (show (Addr.add _ _).block ≠ _; rw [add_block]; exact hn210_0) | exact hn210_0) (.int .i64 ((rd_T62 t198 x12_2).f2.f0))).trans hx210_3
                                  replace hx210_0 := (cell_far (p := ⟨gb209, 1, none⟩) (by first | (rw [add_block]; exact hn210_1) | (show (Addr.add _ _).block ≠ _; rw [add_block]; exact hn210_1) | exact hn210_1) (.int .i64 ((rd_T62 t198 x12_2).f2.f1))).trans hx210_0
                                  replace hx210_1 := (cell_far (p := ⟨gb209, 1, none⟩) (by first | (rw [add_block]; exact hn210_1) | (show (Addr.add _ _).block ≠ _; rw [add_block]; exact hn210_1) | exact hn210_1) (.int .i64 ((rd_T62 t198 x12_2).f2.f1))).trans hx210_1
                                  replace hx210_2 := (cell_far (p := ⟨gb209, 1, none⟩) (by first | (rw [add_block]; exact hn210_1) | (show (Addr.add _ _).block ≠ _; rw [add_block]; exact hn210_1) | exact hn210_1) (.int .i64 ((rd_T62 t198 x12_2).f2.f1))).trans hx210_2
                                  replace hx210_3 := (cell_far (p := ⟨gb209, 1, none⟩) (by first | (rw [add_block]; exact hn210_1) | (show (Addr.add _ _).block ≠ _; rw [add_block]; exact hn210_1) | exact hn210_1) (.int .i64 ((rd_T62 t198 x12_2).f2.f1))).trans hx210_3
                                  (try have hy210_0 := fun (n_ : Nat) => (show ((((w24.drewN n_).setCell ⟨gb209, 0, none⟩ (.int .i64 ((rd_T62 t198 x12_2).f2.f0))).setCell ⟨gb209, 1, none⟩ (.int .i64 ((rd_T62 t198 x12_2).f2.f1)))).cell? _ = some _ from hx210_0))
                                  (try have hy210_1 := fun (n_ : Nat) => (show ((((w24.drewN n_).setCell ⟨gb209, 0, none⟩ (.int .i64 ((rd_T62 t198 x12_2).f2.f0))).setCell ⟨gb209, 1, none⟩ (.int .i64 ((rd_T62 t198 x12_2).f2.f1)))).cell? _ = some _ from hx210_1))
                                  (try have hy210_2 := fun (n_ : Nat) => (show ((((w24.drewN n_).setCell ⟨gb209, 0, none⟩ (.int .i64 ((rd_T62 t198 x12_2).f2.f0))).setCell ⟨gb209, 1, none⟩ (.int .i64 ((rd_T62 t198 x12_2).f2.f1)))).cell? _ = some _ from hx210_2))
                                  (try have hy210_3 := fun (n_ : Nat) => (show ((((w24.drewN n_).setCell ⟨gb209, 0, none⟩ (.int .i64 ((rd_T62 t198 x12_2).f2.f0))).setCell ⟨gb209, 1, none⟩ (.int .i64 ((rd_T62 t198 x12_2).f2.f1)))).cell? _ = some _ from hx210_3))
                                  clear hn210_0
                                  clear hn210_1
                                  replace p210 := eq_true p210
                                  replace q210 := eq_true q210
                                  go_wp2
                                  repeat (go_quiet (fail); try go_wp2)
                                  go_meet
                                  case rel => exact ⟨_, (true), (by first | rfl | (simp; done) | (simp [*]; done)), H', ⟨by have := HJ8.out; have := HK2.out; first | omega | exact Nat.le_refl _⟩, ⟨by (with_reducible repeat (first | apply Kd.R_alloc | apply Kd.R_drewN | apply Kd.R_drew)); exact Kd.R_mono (Kd.R_far (p := ⟨gb209, 1, none⟩) (Kd.R_far (p := ⟨gb209, 0, none⟩) (Kd.R_types HO_7.out BK209.out (by decide)) (fun _ hk => hk.2) (.int .i64 ((rd_T62 t198 x12_2).f2.f0))) (fun _ hk => hk.2) (.int .i64 ((rd_T62 t198 x12_2).f2.f1))) (fun _ hk => trivial)⟩, ⟨by (with_reducible repeat (first | refine blk_drewN ?_ _ | refine blk_drew ?_ | refine blk_alloc ?_ _)); refine blk_far ?_ NB207_209.out _; (with_reducible repeat (first | refine blk_drewN ?_ _ | refine blk_drew ?_ | refine blk_alloc ?_ _)); refine blk_far ?_ NB207_209.out _; (with_reducible repeat (first | refine blk_drewN ?_ _ | refine blk_drew ?_ | refine blk_alloc ?_ _)); exact BK207.out⟩, ⟨by (with_reducible repeat (first | refine blk_drewN ?_ _ | refine blk_drew ?_ | refine blk_alloc ?_ _)); refine blk_put (cs := #[.int .i64 ((rd_T62 t198 x12_2).f2.f0), .int .i64 0]) ?_ 1 _ rfl; (with_reducible repeat (first | refine blk_drewN ?_ _ | refine blk_drew ?_ | refine blk_alloc ?_ _)); refine blk_put (cs := #[.int .i64 0, .int .i64 0]) ?_ 0 _ rfl; (with_reducible repeat (first | refine blk_drewN ?_ _ | refine blk_drew ?_ | refine blk_alloc ?_ _)); exact BK209.out⟩, ⟨by repeat (first | (with_reducible first | exact HB.out | apply below_alloc | apply pw_below_drewN | apply below_drew1 | refine below_set ?_ GE207.out | refine below_set ?_ GE209.out) | exact HB.out)⟩⟩
                                · rw [if_neg c40] at H
                                  have c40b0 : decide (((rd_T62 t198 x12_2).f2.f0) < ((rd_T62 t198 (ji37)).f2.f1)) = false := decide_eq_false c40
                                  clear c40
                                  by_cases c43 : ((rd_T62 t198 x12_2).f2.f0) = ((rd_T62 t198 (ji37)).f2.f1)
                                  · rw [if_pos c43] at H
                                    have c43b0 : (((rd_T62 t198 x12_2).f2.f0) == ((rd_T62 t198 (ji37)).f2.f1)) = true := beq_iff_eq.mpr c43
                                    have c43b1 : (((rd_T62 t198 x12_2).f2.f0) != ((rd_T62 t198 (ji37)).f2.f1)) = false := bne_eq_false_iff_eq.mpr c43
                                    clear c43
                                    have H' := Aside0.mk H
                                    clear H
                                    have hnb44 := NB209_207.out
                                    have hnc44 := NB207_209.out
                                    have hcz45_0 : w24.cell? ⟨gb209, 0, none⟩ = some (.int .i64 0) := (blk_cell BK209.out 0).trans rfl
                                    have hcz45_1 : w24.cell? ⟨gb209, 1, none⟩ = some (.int .i64 0) := (blk_cell BK209.out 1).trans rfl
                                    have hfz45_0 := blk_frozen BK209.out 0
                                    have hfz45_1 := blk_frozen BK209.out 1
                                    have p210 : 0 ≤ ((ji37) : Int) := of_decide_eq_true (by first | (with_reducible assumption) | assumption)
                                    have q210 : (ji37) < (t198.length : Int) := of_decide_eq_true (by first | (with_reducible assumption) | assumption)
                                    obtain ⟨ad210, e210, hx210_0, hx210_1, hx210_2, hx210_3⟩ := at_T62 (Kd.R_reads' HO_7.out).2.2 (ji37) p210 q210
                                    obtain rfl : ad208 = ad210 := (by injection e210)
                                    have hn210_0 : ad208.block ≠ gb209 := Kd.own_blk (Kd.R_ne HO_7.out BK209.out (by decide))
                                    have hn210_1 : ad208.block ≠ gb209 := Kd.own_blk (Kd.R_ne HO_7.out BK209.out (by decide))
                                    replace hx210_0 := (cell_far (p := ⟨gb209, 0, none⟩) (by first | (rw [add_block]; exact hn210_0) | (show (Addr.add _ _).block ≠ _; rw [add_block]; exact hn210_0) | exact hn210_0) (.int .i64 ((rd_T62 t198 x12_2).f2.f0))).trans hx210_0
                                    replace hx210_1 := (cell_far (p := ⟨gb209, 0, none⟩) (by first | (rw [add_block]; exact hn210_0) | (show (Addr.add _ _).block ≠ _; rw [add_block]; exact hn210_0) | exact hn210_0) (.int .i64 ((rd_T62 t198 x12_2).f2.f0))).trans hx210_1
                                    replace hx210_2 := (cell_far (p := ⟨gb209, 0, none⟩) (by first | (rw [add_block]; exact hn210_0) | (show (Addr.add _ _).block ≠ _; rw [add_block]; exact hn210_0) | exact hn210_0) (.int .i64 ((rd_T62 t198 x12_2).f2.f0))).trans hx210_2
                                    replace hx210_3 := (cell_far (p := ⟨gb209, 0, none⟩) (by first | (rw [add_block]; exact hn210_0) | (show (Addr.add _ _).block ≠ _; rw [add_block]; exact hn210_0) | exact hn210_0) (.int .i64 ((rd_T62 t198 x12_2).f2.f0))).trans hx210_3
                                    replace hx210_0 := (cell_far (p := ⟨gb209, 1, none⟩) (by first | (rw [add_block]; exact hn210_1) | (show (Addr.add _ _).block ≠ _; rw [add_block]; exact hn210_1) | exact hn210_1) (.int .i64 ((rd_T62 t198 x12_2).f2.f1))).trans hx210_0
                                    replace hx210_1 := (cell_far (p := ⟨gb209, 1, none⟩) (by first | (rw [add_block]; exact hn210_1) | (show (Addr.add _ _).block ≠ _; rw [add_block]; exact hn210_1) | exact hn210_1) (.int .i64 ((rd_T62 t198 x12_2).f2.f1))).trans hx210_1
                                    replace hx210_2 := (cell_far (p := ⟨gb209, 1, none⟩) (by first | (rw [add_block]; exact hn210_1) | (show (Addr.add _ _).block ≠ _; rw [add_block]; exact hn210_1) | exact hn210_1) (.int .i64 ((rd_T62 t198 x12_2).f2.f1))).trans hx210_2
                                    replace hx210_3 := (cell_far (p := ⟨gb209, 1, none⟩) (by first | (rw [add_block]; exact hn210_1) | (show (Addr.add _ _).block ≠ _; rw [add_block]; exact hn210_1) | exact hn210_1) (.int .i64 ((rd_T62 t198 x12_2).f2.f1))).trans hx210_3
                                    (try have hy210_0 := fun (n_ : Nat) => (show ((((w24.drewN n_).setCell ⟨gb209, 0, none⟩ (.int .i64 ((rd_T62 t198 x12_2).f2.f0))).setCell ⟨gb209, 1, none⟩ (.int .i64 ((rd_T62 t198 x12_2).f2.f1)))).cell? _ = some _ from hx210_0))
                                    (try have hy210_1 := fun (n_ : Nat) => (show ((((w24.drewN n_).setCell ⟨gb209, 0, none⟩ (.int .i64 ((rd_T62 t198 x12_2).f2.f0))).setCell ⟨gb209, 1, none⟩ (.int .i64 ((rd_T62 t198 x12_2).f2.f1)))).cell? _ = some _ from hx210_1))
                                    (try have hy210_2 := fun (n_ : Nat) => (show ((((w24.drewN n_).setCell ⟨gb209, 0, none⟩ (.int .i64 ((rd_T62 t198 x12_2).f2.f0))).setCell ⟨gb209, 1, none⟩ (.int .i64 ((rd_T62 t198 x12_2).f2.f1)))).cell? _ = some _ from hx210_2))
                                    (try have hy210_3 := fun (n_ : Nat) => (show ((((w24.drewN n_).setCell ⟨gb209, 0, none⟩ (.int .i64 ((rd_T62 t198 x12_2).f2.f0))).setCell ⟨gb209, 1, none⟩ (.int .i64 ((rd_T62 t198 x12_2).f2.f1)))).cell? _ = some _ from hx210_3))
                                    clear hn210_0
                                    clear hn210_1
                                    replace p210 := eq_true p210
                                    replace q210 := eq_true q210
                                    have p211 : 0 ≤ ((ji37) : Int) := of_decide_eq_true (by first | (with_reducible assumption) | assumption)
                                    have q211 : (ji37) < (t198.length : Int) := of_decide_eq_true (by first | (with_reducible assumption) | assumption)
                                    obtain ⟨ad211, e211, hx211_0, hx211_1, hx211_2, hx211_3⟩ := at_T62 (Kd.R_reads' HO_7.out).2.2 (ji37) p211 q211
                                    obtain rfl : ad208 = ad211 := (by injection e211)
                                    have hn211_0 : ad208.block ≠ gb209 := Kd.own_blk (Kd.R_ne HO_7.out BK209.out (by decide))
                                    have hn211_1 : ad208.block ≠ gb209 := Kd.own_blk (Kd.R_ne HO_7.out BK209.out (by decide))
                                    replace hx211_0 := (cell_far (p := ⟨gb209, 0, none⟩) (by first | (rw [add_block]; exact hn211_0) | (show (Addr.add _ _).block ≠ _; rw [add_block]; exact hn211_0) | exact hn211_0) (.int .i64 ((rd_T62 t198 x12_2).f2.f0))).trans hx211_0
                                    replace hx211_1 := (cell_far (p := ⟨gb209, 0, none⟩) (by first | (rw [add_block]; exact hn211_0) | (show (Addr.add _ _).block ≠ _; rw [add_block]; exact hn211_0) | exact hn211_0) (.int .i64 ((rd_T62 t198 x12_2).f2.f0))).trans hx211_1
                                    replace hx211_2 := (cell_far (p := ⟨gb209, 0, none⟩) (by first | (rw [add_block]; exact hn211_0) | (show (Addr.add _ _).block ≠ _; rw [add_block]; exact hn211_0) | exact hn211_0) (.int .i64 ((rd_T62 t198 x12_2).f2.f0))).trans hx211_2
                                    replace hx211_3 := (cell_far (p := ⟨gb209, 0, none⟩) (by first | (rw [add_block]; exact hn211_0) | (show (Addr.add _ _).block ≠ _; rw [add_block]; exact hn211_0) | exact hn211_0) (.int .i64 ((rd_T62 t198 x12_2).f2.f0))).trans hx211_3
                                    replace hx211_0 := (cell_far (p := ⟨gb209, 1, none⟩) (by first | (rw [add_block]; exact hn211_1) | (show (Addr.add _ _).block ≠ _; rw [add_block]; exact hn211_1) | exact hn211_1) (.int .i64 ((rd_T62 t198 x12_2).f2.f1))).trans hx211_0
                                    replace hx211_1 := (cell_far (p := ⟨gb209, 1, none⟩) (by first | (rw [add_block]; exact hn211_1) | (show (Addr.add _ _).block ≠ _; rw [add_block]; exact hn211_1) | exact hn211_1) (.int .i64 ((rd_T62 t198 x12_2).f2.f1))).trans hx211_1
                                    replace hx211_2 := (cell_far (p := ⟨gb209, 1, none⟩) (by first | (rw [add_block]; exact hn211_1) | (show (Addr.add _ _).block ≠ _; rw [add_block]; exact hn211_1) | exact hn211_1) (.int .i64 ((rd_T62 t198 x12_2).f2.f1))).trans hx211_2
                                    replace hx211_3 := (cell_far (p := ⟨gb209, 1, none⟩) (by first | (rw [add_block]; exact hn211_1) | (show (Addr.add _ _).block ≠ _; rw [add_block]; exact hn211_1) | exact hn211_1) (.int .i64 ((rd_T62 t198 x12_2).f2.f1))).trans hx211_3
                                    (try have hy211_0 := fun (n_ : Nat) => (show ((((w24.drewN n_).setCell ⟨gb209, 0, none⟩ (.int .i64 ((rd_T62 t198 x12_2).f2.f0))).setCell ⟨gb209, 1, none⟩ (.int .i64 ((rd_T62 t198 x12_2).f2.f1)))).cell? _ = some _ from hx211_0))
                                    (try have hy211_1 := fun (n_ : Nat) => (show ((((w24.drewN n_).setCell ⟨gb209, 0, none⟩ (.int .i64 ((rd_T62 t198 x12_2).f2.f0))).setCell ⟨gb209, 1, none⟩ (.int .i64 ((rd_T62 t198 x12_2).f2.f1)))).cell? _ = some _ from hx211_1))
                                    (try have hy211_2 := fun (n_ : Nat) => (show ((((w24.drewN n_).setCell ⟨gb209, 0, none⟩ (.int .i64 ((rd_T62 t198 x12_2).f2.f0))).setCell ⟨gb209, 1, none⟩ (.int .i64 ((rd_T62 t198 x12_2).f2.f1)))).cell? _ = some _ from hx211_2))
                                    (try have hy211_3 := fun (n_ : Nat) => (show ((((w24.drewN n_).setCell ⟨gb209, 0, none⟩ (.int .i64 ((rd_T62 t198 x12_2).f2.f0))).setCell ⟨gb209, 1, none⟩ (.int .i64 ((rd_T62 t198 x12_2).f2.f1)))).cell? _ = some _ from hx211_3))
                                    clear hn211_0
                                    clear hn211_1
                                    replace p211 := eq_true p211
                                    replace q211 := eq_true q211
                                    have p212 : 0 ≤ (x12_2 : Int) := of_decide_eq_true (by first | (with_reducible assumption) | assumption)
                                    have q212 : x12_2 < (t198.length : Int) := of_decide_eq_true (by first | (with_reducible assumption) | assumption)
                                    obtain ⟨ad212, e212, hx212_0, hx212_1, hx212_2, hx212_3⟩ := at_T62 (Kd.R_reads' HO_7.out).2.2 x12_2 p212 q212
                                    obtain rfl : ad208 = ad212 := (by injection e212)
                                    have hn212_0 : ad208.block ≠ gb209 := Kd.own_blk (Kd.R_ne HO_7.out BK209.out (by decide))
                                    have hn212_1 : ad208.block ≠ gb209 := Kd.own_blk (Kd.R_ne HO_7.out BK209.out (by decide))
                                    replace hx212_0 := (cell_far (p := ⟨gb209, 0, none⟩) (by first | (rw [add_block]; exact hn212_0) | (show (Addr.add _ _).block ≠ _; rw [add_block]; exact hn212_0) | exact hn212_0) (.int .i64 ((rd_T62 t198 x12_2).f2.f0))).trans hx212_0
                                    replace hx212_1 := (cell_far (p := ⟨gb209, 0, none⟩) (by first | (rw [add_block]; exact hn212_0) | (show (Addr.add _ _).block ≠ _; rw [add_block]; exact hn212_0) | exact hn212_0) (.int .i64 ((rd_T62 t198 x12_2).f2.f0))).trans hx212_1
                                    replace hx212_2 := (cell_far (p := ⟨gb209, 0, none⟩) (by first | (rw [add_block]; exact hn212_0) | (show (Addr.add _ _).block ≠ _; rw [add_block]; exact hn212_0) | exact hn212_0) (.int .i64 ((rd_T62 t198 x12_2).f2.f0))).trans hx212_2
                                    replace hx212_3 := (cell_far (p := ⟨gb209, 0, none⟩) (by first | (rw [add_block]; exact hn212_0) | (show (Addr.add _ _).block ≠ _; rw [add_block]; exact hn212_0) | exact hn212_0) (.int .i64 ((rd_T62 t198 x12_2).f2.f0))).trans hx212_3
                                    replace hx212_0 := (cell_far (p := ⟨gb209, 1, none⟩) (by first | (rw [add_block]; exact hn212_1) | (show (Addr.add _ _).block ≠ _; rw [add_block]; exact hn212_1) | exact hn212_1) (.int .i64 ((rd_T62 t198 x12_2).f2.f1))).trans hx212_0
                                    replace hx212_1 := (cell_far (p := ⟨gb209, 1, none⟩) (by first | (rw [add_block]; exact hn212_1) | (show (Addr.add _ _).block ≠ _; rw [add_block]; exact hn212_1) | exact hn212_1) (.int .i64 ((rd_T62 t198 x12_2).f2.f1))).trans hx212_1
                                    replace hx212_2 := (cell_far (p := ⟨gb209, 1, none⟩) (by first | (rw [add_block]; exact hn212_1) | (show (Addr.add _ _).block ≠ _; rw [add_block]; exact hn212_1) | exact hn212_1) (.int .i64 ((rd_T62 t198 x12_2).f2.f1))).trans hx212_2
                                    replace hx212_3 := (cell_far (p := ⟨gb209, 1, none⟩) (by first | (rw [add_block]; exact hn212_1) | (show (Addr.add _ _).block ≠ _; rw [add_block]; exact hn212_1) | exact hn212_1) (.int .i64 ((rd_T62 t198 x12_2).f2.f1))).trans hx212_3
                                    (try have hy212_0 := fun (n_ : Nat) => (show ((((w24.drewN n_).setCell ⟨gb209, 0, none⟩ (.int .i64 ((rd_T62 t198 x12_2).f2.f0))).setCell ⟨gb209, 1, none⟩ (.int .i64 ((rd_T62 t198 x12_2).f2.f1)))).cell? _ = some _ from hx212_0))
                                    (try have hy212_1 := fun (n_ : Nat) => (show ((((w24.drewN n_).setCell ⟨gb209, 0, none⟩ (.int .i64 ((rd_T62 t198 x12_2).f2.f0))).setCell ⟨gb209, 1, none⟩ (.int .i64 ((rd_T62 t198 x12_2).f2.f1)))).cell? _ = some _ from hx212_1))
                                    (try have hy212_2 := fun (n_ : Nat) => (show ((((w24.drewN n_).setCell ⟨gb209, 0, none⟩ (.int .i64 ((rd_T62 t198 x12_2).f2.f0))).setCell ⟨gb209, 1, none⟩ (.int .i64 ((rd_T62 t198 x12_2).f2.f1)))).cell? _ = some _ from hx212_2))
                                    (try have hy212_3 := fun (n_ : Nat) => (show ((((w24.drewN n_).setCell ⟨gb209, 0, none⟩ (.int .i64 ((rd_T62 t198 x12_2).f2.f0))).setCell ⟨gb209, 1, none⟩ (.int .i64 ((rd_T62 t198 x12_2).f2.f1)))).cell? _ = some _ from hx212_3))
                                    clear hn212_0
                                    clear hn212_1
                                    replace p212 := eq_true p212
                                    replace q212 := eq_true q212
                                    have p213 : 0 ≤ ((ji37) : Int) := of_decide_eq_true (by first | (with_reducible assumption) | assumption)
                                    have q213 : (ji37) < (t198.length : Int) := of_decide_eq_true (by first | (with_reducible assumption) | assumption)
                                    obtain ⟨ad213, e213, hx213_0, hx213_1, hx213_2, hx213_3⟩ := at_T62 (Kd.R_reads' HO_7.out).2.2 (ji37) p213 q213
                                    obtain rfl : ad208 = ad213 := (by injection e213)
                                    have hn213_0 : ad208.block ≠ gb209 := Kd.own_blk (Kd.R_ne HO_7.out BK209.out (by decide))
                                    have hn213_1 : ad208.block ≠ gb209 := Kd.own_blk (Kd.R_ne HO_7.out BK209.out (by decide))
                                    replace hx213_0 := (cell_far (p := ⟨gb209, 0, none⟩) (by first | (rw [add_block]; exact hn213_0) | (show (Addr.add _ _).block ≠ _; rw [add_block]; exact hn213_0) | exact hn213_0) (.int .i64 ((rd_T62 t198 x12_2).f2.f0))).trans hx213_0
                                    replace hx213_1 := (cell_far (p := ⟨gb209, 0, none⟩) (by first | (rw [add_block]; exact hn213_0) | (show (Addr.add _ _).block ≠ _; rw [add_block]; exact hn213_0) | exact hn213_0) (.int .i64 ((rd_T62 t198 x12_2).f2.f0))).trans hx213_1
                                    replace hx213_2 := (cell_far (p := ⟨gb209, 0, none⟩) (by first | (rw [add_block]; exact hn213_0) | (show (Addr.add _ _).block ≠ _; rw [add_block]; exact hn213_0) | exact hn213_0) (.int .i64 ((rd_T62 t198 x12_2).f2.f0))).trans hx213_2
                                    replace hx213_3 := (cell_far (p := ⟨gb209, 0, none⟩) (by first | (rw [add_block]; exact hn213_0) | (show (Addr.add _ _).block ≠ _; rw [add_block]; exact hn213_0) | exact hn213_0) (.int .i64 ((rd_T62 t198 x12_2).f2.f0))).trans hx213_3
                                    replace hx213_0 := (cell_far (p := ⟨gb209, 1, none⟩) (by first | (rw [add_block]; exact hn213_1) | (show (Addr.add _ _).block ≠ _; rw [add_block]; exact hn213_1) | exact hn213_1) (.int .i64 ((rd_T62 t198 x12_2).f2.f1))).trans hx213_0
                                    replace hx213_1 := (cell_far (p := ⟨gb209, 1, none⟩) (by first | (rw [add_block]; exact hn213_1) | (show (Addr.add _ _).block ≠ _; rw [add_block]; exact hn213_1) | exact hn213_1) (.int .i64 ((rd_T62 t198 x12_2).f2.f1))).trans hx213_1
                                    replace hx213_2 := (cell_far (p := ⟨gb209, 1, none⟩) (by first | (rw [add_block]; exact hn213_1) | (show (Addr.add _ _).block ≠ _; rw [add_block]; exact hn213_1) | exact hn213_1) (.int .i64 ((rd_T62 t198 x12_2).f2.f1))).trans hx213_2
                                    replace hx213_3 := (cell_far (p := ⟨gb209, 1, none⟩) (by first | (rw [add_block]; exact hn213_1) | (show (Addr.add _ _).block ≠ _; rw [add_block]; exact hn213_1) | exact hn213_1) (.int .i64 ((rd_T62 t198 x12_2).f2.f1))).trans hx213_3
                                    (try have hy213_0 := fun (n_ : Nat) => (show ((((w24.drewN n_).setCell ⟨gb209, 0, none⟩ (.int .i64 ((rd_T62 t198 x12_2).f2.f0))).setCell ⟨gb209, 1, none⟩ (.int .i64 ((rd_T62 t198 x12_2).f2.f1)))).cell? _ = some _ from hx213_0))
                                    (try have hy213_1 := fun (n_ : Nat) => (show ((((w24.drewN n_).setCell ⟨gb209, 0, none⟩ (.int .i64 ((rd_T62 t198 x12_2).f2.f0))).setCell ⟨gb209, 1, none⟩ (.int .i64 ((rd_T62 t198 x12_2).f2.f1)))).cell? _ = some _ from hx213_1))
                                    (try have hy213_2 := fun (n_ : Nat) => (show ((((w24.drewN n_).setCell ⟨gb209, 0, none⟩ (.int .i64 ((rd_T62 t198 x12_2).f2.f0))).setCell ⟨gb209, 1, none⟩ (.int .i64 ((rd_T62 t198 x12_2).f2.f1)))).cell? _ = some _ from hx213_2))
                                    (try have hy213_3 := fun (n_ : Nat) => (show ((((w24.drewN n_).setCell ⟨gb209, 0, none⟩ (.int .i64 ((rd_T62 t198 x12_2).f2.f0))).setCell ⟨gb209, 1, none⟩ (.int .i64 ((rd_T62 t198 x12_2).f2.f1)))).cell? _ = some _ from hx213_3))
                                    clear hn213_0
                                    clear hn213_1
                                    replace p213 := eq_true p213
                                    replace q213 := eq_true q213
                                    go_wp2
                                    repeat (go_quiet (fail); try go_wp2)
                                    go_meet
                                    case rel => exact ⟨_, ((((rd_T62 t198 x12_2).f1) == ((rd_T62 t198 (ji37)).f1))), (by first | rfl | (simp; done) | (simp only [← hji37] <;> (first | rfl | simp)) | (simp [*]; done)), H', ⟨by have := HJ8.out; have := HK2.out; first | omega | exact Nat.le_refl _⟩, ⟨by (with_reducible repeat (first | apply Kd.R_alloc | apply Kd.R_drewN | apply Kd.R_drew)); exact Kd.R_mono (Kd.R_far (p := ⟨gb209, 1, none⟩) (Kd.R_far (p := ⟨gb209, 0, none⟩) (Kd.R_types HO_7.out BK209.out (by decide)) (fun _ hk => hk.2) (.int .i64 ((rd_T62 t198 x12_2).f2.f0))) (fun _ hk => hk.2) (.int .i64 ((rd_T62 t198 x12_2).f2.f1))) (fun _ hk => trivial)⟩, ⟨by (with_reducible repeat (first | refine blk_drewN ?_ _ | refine blk_drew ?_ | refine blk_alloc ?_ _)); refine blk_far ?_ NB207_209.out _; (with_reducible repeat (first | refine blk_drewN ?_ _ | refine blk_drew ?_ | refine blk_alloc ?_ _)); refine blk_far ?_ NB207_209.out _; (with_reducible repeat (first | refine blk_drewN ?_ _ | refine blk_drew ?_ | refine blk_alloc ?_ _)); exact BK207.out⟩, ⟨by (with_reducible repeat (first | refine blk_drewN ?_ _ | refine blk_drew ?_ | refine blk_alloc ?_ _)); refine blk_put (cs := #[.int .i64 ((rd_T62 t198 x12_2).f2.f0), .int .i64 0]) ?_ 1 _ rfl; (with_reducible repeat (first | refine blk_drewN ?_ _ | refine blk_drew ?_ | refine blk_alloc ?_ _)); refine blk_put (cs := #[.int .i64 0, .int .i64 0]) ?_ 0 _ rfl; (with_reducible repeat (first | refine blk_drewN ?_ _ | refine blk_drew ?_ | refine blk_alloc ?_ _)); exact BK209.out⟩, ⟨by repeat (first | (with_reducible first | exact HB.out | apply below_alloc | apply pw_below_drewN | apply below_drew1 | refine below_set ?_ GE207.out | refine below_set ?_ GE209.out) | exact HB.out)⟩⟩
                                  · rw [if_neg c43] at H
                                    have c43b0 : (((rd_T62 t198 x12_2).f2.f0) == ((rd_T62 t198 (ji37)).f2.f1)) = false := beq_eq_false_iff_ne.mpr c43
                                    have c43b1 : (((rd_T62 t198 x12_2).f2.f0) != ((rd_T62 t198 (ji37)).f2.f1)) = true := bne_iff_ne.mpr c43
                                    have H' := Aside0.mk H
                                    clear H
                                    have hnb46 := NB209_207.out
                                    have hnc46 := NB207_209.out
                                    have hcz47_0 : w24.cell? ⟨gb209, 0, none⟩ = some (.int .i64 0) := (blk_cell BK209.out 0).trans rfl
                                    have hcz47_1 : w24.cell? ⟨gb209, 1, none⟩ = some (.int .i64 0) := (blk_cell BK209.out 1).trans rfl
                                    have hfz47_0 := blk_frozen BK209.out 0
                                    have hfz47_1 := blk_frozen BK209.out 1
                                    have p210 : 0 ≤ ((ji37) : Int) := of_decide_eq_true (by first | (with_reducible assumption) | assumption)
                                    have q210 : (ji37) < (t198.length : Int) := of_decide_eq_true (by first | (with_reducible assumption) | assumption)
                                    obtain ⟨ad210, e210, hx210_0, hx210_1, hx210_2, hx210_3⟩ := at_T62 (Kd.R_reads' HO_7.out).2.2 (ji37) p210 q210
                                    obtain rfl : ad208 = ad210 := (by injection e210)
                                    have hn210_0 : ad208.block ≠ gb209 := Kd.own_blk (Kd.R_ne HO_7.out BK209.out (by decide))
                                    have hn210_1 : ad208.block ≠ gb209 := Kd.own_blk (Kd.R_ne HO_7.out BK209.out (by decide))
                                    replace hx210_0 := (cell_far (p := ⟨gb209, 0, none⟩) (by first | (rw [add_block]; exact hn210_0) | (show (Addr.add _ _).block ≠ _; rw [add_block]; exact hn210_0) | exact hn210_0) (.int .i64 ((rd_T62 t198 x12_2).f2.f0))).trans hx210_0
                                    replace hx210_1 := (cell_far (p := ⟨gb209, 0, none⟩) (by first | (rw [add_block]; exact hn210_0) | (show (Addr.add _ _).block ≠ _; rw [add_block]; exact hn210_0) | exact hn210_0) (.int .i64 ((rd_T62 t198 x12_2).f2.f0))).trans hx210_1
                                    replace hx210_2 := (cell_far (p := ⟨gb209, 0, none⟩) (by first | (rw [add_block]; exact hn210_0) | (show (Addr.add _ _).block ≠ _; rw [add_block]; exact hn210_0) | exact hn210_0) (.int .i64 ((rd_T62 t198 x12_2).f2.f0))).trans hx210_2
                                    replace hx210_3 := (cell_far (p := ⟨gb209, 0, none⟩) (by first | (rw [add_block]; exact hn210_0) | (show (Addr.add _ _).block ≠ _; rw [add_block]; exact hn210_0) | exact hn210_0) (.int .i64 ((rd_T62 t198 x12_2).f2.f0))).trans hx210_3
                                    replace hx210_0 := (cell_far (p := ⟨gb209, 1, none⟩) (by first | (rw [add_block]; exact hn210_1) | (show (Addr.add _ _).block ≠ _; rw [add_block]; exact hn210_1) | exact hn210_1) (.int .i64 ((rd_T62 t198 x12_2).f2.f1))).trans hx210_0
                                    replace hx210_1 := (cell_far (p := ⟨gb209, 1, none⟩) (by first | (rw [add_block]; exact hn210_1) | (show (Addr.add _ _).block ≠ _; rw [add_block]; exact hn210_1) | exact hn210_1) (.int .i64 ((rd_T62 t198 x12_2).f2.f1))).trans hx210_1
                                    replace hx210_2 := (cell_far (p := ⟨gb209, 1, none⟩) (by first | (rw [add_block]; exact hn210_1) | (show (Addr.add _ _).block ≠ _; rw [add_block]; exact hn210_1) | exact hn210_1) (.int .i64 ((rd_T62 t198 x12_2).f2.f1))).trans hx210_2
                                    replace hx210_3 := (cell_far (p := ⟨gb209, 1, none⟩) (by first | (rw [add_block]; exact hn210_1) | (show (Addr.add _ _).block ≠ _; rw [add_block]; exact hn210_1) | exact hn210_1) (.int .i64 ((rd_T62 t198 x12_2).f2.f1))).trans hx210_3
                                    (try have hy210_0 := fun (n_ : Nat) => (show ((((w24.drewN n_).setCell ⟨gb209, 0, none⟩ (.int .i64 ((rd_T62 t198 x12_2).f2.f0))).setCell ⟨gb209, 1, none⟩ (.int .i64 ((rd_T62 t198 x12_2).f2.f1)))).cell? _ = some _ from hx210_0))
                                    (try have hy210_1 := fun (n_ : Nat) => (show ((((w24.drewN n_).setCell ⟨gb209, 0, none⟩ (.int .i64 ((rd_T62 t198 x12_2).f2.f0))).setCell ⟨gb209, 1, none⟩ (.int .i64 ((rd_T62 t198 x12_2).f2.f1)))).cell? _ = some _ from hx210_1))
                                    (try have hy210_2 := fun (n_ : Nat) => (show ((((w24.drewN n_).setCell ⟨gb209, 0, none⟩ (.int .i64 ((rd_T62 t198 x12_2).f2.f0))).setCell ⟨gb209, 1, none⟩ (.int .i64 ((rd_T62 t198 x12_2).f2.f1)))).cell? _ = some _ from hx210_2))
                                    (try have hy210_3 := fun (n_ : Nat) => (show ((((w24.drewN n_).setCell ⟨gb209, 0, none⟩ (.int .i64 ((rd_T62 t198 x12_2).f2.f0))).setCell ⟨gb209, 1, none⟩ (.int .i64 ((rd_T62 t198 x12_2).f2.f1)))).cell? _ = some _ from hx210_3))
                                    clear hn210_0
                                    clear hn210_1
                                    replace p210 := eq_true p210
                                    replace q210 := eq_true q210
                                    have p211 : 0 ≤ ((ji37) : Int) := of_decide_eq_true (by first | (with_reducible assumption) | assumption)
                                    have q211 : (ji37) < (t198.length : Int) := of_decide_eq_true (by first | (with_reducible assumption) | assumption)
                                    obtain ⟨ad211, e211, hx211_0, hx211_1, hx211_2, hx211_3⟩ := at_T62 (Kd.R_reads' HO_7.out).2.2 (ji37) p211 q211
                                    obtain rfl : ad208 = ad211 := (by injection e211)
                                    have hn211_0 : ad208.block ≠ gb209 := Kd.own_blk (Kd.R_ne HO_7.out BK209.out (by decide))
                                    have hn211_1 : ad208.block ≠ gb209 := Kd.own_blk (Kd.R_ne HO_7.out BK209.out (by decide))
                                    replace hx211_0 := (cell_far (p := ⟨gb209, 0, none⟩) (by first | (rw [add_block]; exact hn211_0) | (show (Addr.add _ _).block ≠ _; rw [add_block]; exact hn211_0) | exact hn211_0) (.int .i64 ((rd_T62 t198 x12_2).f2.f0))).trans hx211_0
                                    replace hx211_1 := (cell_far (p := ⟨gb209, 0, none⟩) (by first | (rw [add_block]; exact hn211_0) | (show (Addr.add _ _).block ≠ _; rw [add_block]; exact hn211_0) | exact hn211_0) (.int .i64 ((rd_T62 t198 x12_2).f2.f0))).trans hx211_1
                                    replace hx211_2 := (cell_far (p := ⟨gb209, 0, none⟩) (by first | (rw [add_block]; exact hn211_0) | (show (Addr.add _ _).block ≠ _; rw [add_block]; exact hn211_0) | exact hn211_0) (.int .i64 ((rd_T62 t198 x12_2).f2.f0))).trans hx211_2
                                    replace hx211_3 := (cell_far (p := ⟨gb209, 0, none⟩) (by first | (rw [add_block]; exact hn211_0) | (show (Addr.add _ _).block ≠ _; rw [add_block]; exact hn211_0) | exact hn211_0) (.int .i64 ((rd_T62 t198 x12_2).f2.f0))).trans hx211_3
                                    replace hx211_0 := (cell_far (p := ⟨gb209, 1, none⟩) (by first | (rw [add_block]; exact hn211_1) | (show (Addr.add _ _).block ≠ _; rw [add_block]; exact hn211_1) | exact hn211_1) (.int .i64 ((rd_T62 t198 x12_2).f2.f1))).trans hx211_0
                                    replace hx211_1 := (cell_far (p := ⟨gb209, 1, none⟩) (by first | (rw [add_block]; exact hn211_1) | (show (Addr.add _ _).block ≠ _; rw [add_block]; exact hn211_1) | exact hn211_1) (.int .i64 ((rd_T62 t198 x12_2).f2.f1))).trans hx211_1
                                    replace hx211_2 := (cell_far (p := ⟨gb209, 1, none⟩) (by first | (rw [add_block]; exact hn211_1) | (show (Addr.add _ _).block ≠ _; rw [add_block]; exact hn211_1) | exact hn211_1) (.int .i64 ((rd_T62 t198 x12_2).f2.f1))).trans hx211_2
                                    replace hx211_3 := (cell_far (p := ⟨gb209, 1, none⟩) (by first | (rw [add_block]; exact hn211_1) | (show (Addr.add _ _).block ≠ _; rw [add_block]; exact hn211_1) | exact hn211_1) (.int .i64 ((rd_T62 t198 x12_2).f2.f1))).trans hx211_3
                                    (try have hy211_0 := fun (n_ : Nat) => (show ((((w24.drewN n_).setCell ⟨gb209, 0, none⟩ (.int .i64 ((rd_T62 t198 x12_2).f2.f0))).setCell ⟨gb209, 1, none⟩ (.int .i64 ((rd_T62 t198 x12_2).f2.f1)))).cell? _ = some _ from hx211_0))
                                    (try have hy211_1 := fun (n_ : Nat) => (show ((((w24.drewN n_).setCell ⟨gb209, 0, none⟩ (.int .i64 ((rd_T62 t198 x12_2).f2.f0))).setCell ⟨gb209, 1, none⟩ (.int .i64 ((rd_T62 t198 x12_2).f2.f1)))).cell? _ = some _ from hx211_1))
                                    (try have hy211_2 := fun (n_ : Nat) => (show ((((w24.drewN n_).setCell ⟨gb209, 0, none⟩ (.int .i64 ((rd_T62 t198 x12_2).f2.f0))).setCell ⟨gb209, 1, none⟩ (.int .i64 ((rd_T62 t198 x12_2).f2.f1)))).cell? _ = some _ from hx211_2))
                                    (try have hy211_3 := fun (n_ : Nat) => (show ((((w24.drewN n_).setCell ⟨gb209, 0, none⟩ (.int .i64 ((rd_T62 t198 x12_2).f2.f0))).setCell ⟨gb209, 1, none⟩ (.int .i64 ((rd_T62 t198 x12_2).f2.f1)))).cell? _ = some _ from hx211_3))
                                    clear hn211_0
                                    clear hn211_1
                                    replace p211 := eq_true p211
                                    replace q211 := eq_true q211
                                    go_wp2
                                    repeat (go_quiet (fail); try go_wp2)
                                    go_meet
                                    case rel => exact ⟨_, (false), (by first | rfl | (simp; done) | (simp [*]; done)), H', ⟨by have := HJ8.out; have := HK2.out; first | omega | exact Nat.le_refl _⟩, ⟨by (with_reducible repeat (first | apply Kd.R_alloc | apply Kd.R_drewN | apply Kd.R_drew)); exact Kd.R_mono (Kd.R_far (p := ⟨gb209, 1, none⟩) (Kd.R_far (p := ⟨gb209, 0, none⟩) (Kd.R_types HO_7.out BK209.out (by decide)) (fun _ hk => hk.2) (.int .i64 ((rd_T62 t198 x12_2).f2.f0))) (fun _ hk => hk.2) (.int .i64 ((rd_T62 t198 x12_2).f2.f1))) (fun _ hk => trivial)⟩, ⟨by (with_reducible repeat (first | refine blk_drewN ?_ _ | refine blk_drew ?_ | refine blk_alloc ?_ _)); refine blk_far ?_ NB207_209.out _; (with_reducible repeat (first | refine blk_drewN ?_ _ | refine blk_drew ?_ | refine blk_alloc ?_ _)); refine blk_far ?_ NB207_209.out _; (with_reducible repeat (first | refine blk_drewN ?_ _ | refine blk_drew ?_ | refine blk_alloc ?_ _)); exact BK207.out⟩, ⟨by (with_reducible repeat (first | refine blk_drewN ?_ _ | refine blk_drew ?_ | refine blk_alloc ?_ _)); refine blk_put (cs := #[.int .i64 ((rd_T62 t198 x12_2).f2.f0), .int .i64 0]) ?_ 1 _ rfl; (with_reducible repeat (first | refine blk_drewN ?_ _ | refine blk_drew ?_ | refine blk_alloc ?_ _)); refine blk_put (cs := #[.int .i64 0, .int .i64 0]) ?_ 0 _ rfl; (with_reducible repeat (first | refine blk_drewN ?_ _ | refine blk_drew ?_ | refine blk_alloc ?_ _)); exact BK209.out⟩, ⟨by repeat (first | (with_reducible first | exact HB.out | apply below_alloc | apply pw_below_drewN | apply below_drew1 | refine below_set ?_ GE207.out | refine below_set ?_ GE209.out) | exact HB.out)⟩⟩
                              · rw [if_neg c39] at H
                                exact absurd H (by simp)
                            · rw [if_neg c38] at H
                              exact absurd H (by simp)
                          · rw [if_neg c36] at H
                            have c36b0 : decide (0 < x12_2) = false := decide_eq_false c36
                            clear c36
                            have H' := Aside0.mk H
                            clear H
                            have hnb48 := NB209_207.out
                            have hnc48 := NB207_209.out
                            have hcz49_0 : w24.cell? ⟨gb209, 0, none⟩ = some (.int .i64 0) := (blk_cell BK209.out 0).trans rfl
                            have hcz49_1 : w24.cell? ⟨gb209, 1, none⟩ = some (.int .i64 0) := (blk_cell BK209.out 1).trans rfl
                            have hfz49_0 := blk_frozen BK209.out 0
                            have hfz49_1 := blk_frozen BK209.out 1
                            go_wp2
                            repeat (go_quiet (fail); try go_wp2)
                            go_meet
                            case rel => exact ⟨_, (false), (by first | rfl | (simp; done) | (simp [*]; done)), H', ⟨by have := HJ8.out; have := HK2.out; first | omega | exact Nat.le_refl _⟩, ⟨by (with_reducible repeat (first | apply Kd.R_alloc | apply Kd.R_drewN | apply Kd.R_drew)); exact Kd.R_mono (Kd.R_far (p := ⟨gb209, 1, none⟩) (Kd.R_far (p := ⟨gb209, 0, none⟩) (Kd.R_types HO_7.out BK209.out (by decide)) (fun _ hk => hk.2) (.int .i64 ((rd_T62 t198 x12_2).f2.f0))) (fun _ hk => hk.2) (.int .i64 ((rd_T62 t198 x12_2).f2.f1))) (fun _ hk => trivial)⟩, ⟨by (with_reducible repeat (first | refine blk_drewN ?_ _ | refine blk_drew ?_ | refine blk_alloc ?_ _)); refine blk_far ?_ NB207_209.out _; (with_reducible repeat (first | refine blk_drewN ?_ _ | refine blk_drew ?_ | refine blk_alloc ?_ _)); refine blk_far ?_ NB207_209.out _; (with_reducible repeat (first | refine blk_drewN ?_ _ | refine blk_drew ?_ | refine blk_alloc ?_ _)); exact BK207.out⟩, ⟨by (with_reducible repeat (first | refine blk_drewN ?_ _ | refine blk_drew ?_ | refine blk_alloc ?_ _)); refine blk_put (cs := #[.int .i64 ((rd_T62 t198 x12_2).f2.f0), .int .i64 0]) ?_ 1 _ rfl; (with_reducible repeat (first | refine blk_drewN ?_ _ | refine blk_drew ?_ | refine blk_alloc ?_ _)); refine blk_put (cs := #[.int .i64 0, .int .i64 0]) ?_ 0 _ rfl; (with_reducible repeat (first | refine blk_drewN ?_ _ | refine blk_drew ?_ | refine blk_alloc ?_ _)); exact BK209.out⟩, ⟨by repeat (first | (with_reducible first | exact HB.out | apply below_alloc | apply pw_below_drewN | apply below_drew1 | refine below_set ?_ GE207.out | refine below_set ?_ GE209.out) | exact HB.out)⟩⟩
                  case rest =>
                    clear HC22
                    try clear c1
                    try clear c2
                    try clear p2
                    try clear q2
                    try clear hx2
                    try clear c3
                    try clear c4
                    try clear p6
                    try clear c8
                    try clear c18
                    try clear c18b0
                    try clear c18b1
                    try clear c19
                    try clear c20
                    try clear c20b0
                    try clear p20
                    try clear q20
                    try clear hx20
                    try clear c21
                    try clear c21b0
                    try clear p21
                    try clear q21
                    try clear hx21
                    try clear c25
                    try clear c27
                    try clear c27b0
                    try clear c27b1
                    try clear c28
                    try clear c30
                    try clear c30b0
                    try clear c31
                    try clear c33
                    try clear c33b0
                    try clear c34
                    try clear c36
                    try clear c36b0
                    try clear c38
                    try clear c38b0
                    try clear c39
                    try clear c39b0
                    try clear c40
                    try clear c40b0
                    try clear c41
                    try clear c43
                    try clear c43b0
                    try clear c43b1
                    try clear c44
                    try clear c46
                    try clear c48
                    try clear hcz17_0
                    try clear hcz17_1
                    try clear hcz17_2
                    try clear hcz17_3
                    try clear hcz26_0
                    try clear hcz26_1
                    try clear hcz29_0
                    try clear hcz29_1
                    try clear hcz32_0
                    try clear hcz32_1
                    try clear hcz35_0
                    try clear hcz35_1
                    try clear hcz42_0
                    try clear hcz42_1
                    try clear hcz45_0
                    try clear hcz45_1
                    try clear hcz47_0
                    try clear hcz47_1
                    try clear hcz49_0
                    try clear hcz49_1
                    try clear hfz17_0
                    try clear hfz17_1
                    try clear hfz17_2
                    try clear hfz17_3
                    try clear hfz26_0
                    try clear hfz26_1
                    try clear hfz29_0
                    try clear hfz29_1
                    try clear hfz32_0
                    try clear hfz32_1
                    try clear hfz35_0
                    try clear hfz35_1
                    try clear hfz42_0
                    try clear hfz42_1
                    try clear hfz45_0
                    try clear hfz45_1
                    try clear hfz47_0
                    try clear hfz47_1
                    try clear hfz49_0
                    try clear hfz49_1
                    try clear hx208_0
                    try clear hx208_1
                    try clear hx208_2
                    try clear hx208_3
                    try clear hx210_0
                    try clear hx210_1
                    try clear hx210_2
                    try clear hx210_3
                    try clear hx211_0
                    try clear hx211_1
                    try clear hx211_2
                    try clear hx211_3
                    try clear hx212_0
                    try clear hx212_1
                    try clear hx212_2
                    try clear hx212_3
                    try clear hx213_0
                    try clear hx213_1
                    try clear hx213_2
                    try clear hx213_3
                    try clear p2
                    try clear p208
                    try clear p210
                    try clear p211
                    try clear p212
                    try clear p213
                    try clear q208
                    try clear q210
                    try clear q211
                    try clear q212
                    try clear q213
                    obtain ⟨kq, x106_21, rfl, HA, HJ21, HO_7, BK207, BK209, HB⟩ := hcut
                    cases kq with
                    | zero => exact absurd HA.out (by simp [dialtonelaw14_LifeStays.j2])
                    | succ kj21 =>
                      have H := HA.out
                      clear HA
                      simp only [dialtonelaw14_LifeStays.j2] at H
                      by_cases c50 : x106_21 = true
                      · subst c50
                        have H1 : (some false) = some r := by rw [if_pos rfl] at H; exact H
                        clear H
                        have H := H1
                        clear H1
                        obtain rfl := Option.some.inj H
                        go_wp2
                        repeat (go_quiet (fail); try go_wp2)
                        go_ret
                        exact ⟨by first | rfl | (simp [errW_none, errW_some] <;> rfl) | (simp [*, errW_none, errW_some] <;> rfl), by repeat (first | (with_reducible first | exact HB.out | apply below_alloc | apply pw_below_drewN | apply below_drew1 | refine below_set ?_ GE207.out | refine below_set ?_ GE209.out) | exact HB.out)⟩
                      · replace c50 := Bool.eq_false_iff.mpr c50
                        subst c50
                        have H1 : (if ((rd_T62 t198 x12_2).f2.f0) ≤ t197 then (dialtonelaw14_LifeStays.j3 kj21 t197 t198 x11_2 x12_2 (decide (t197 < ((rd_T62 t198 x12_2).f2.f1))) t202 t203 t204 t205) else (dialtonelaw14_LifeStays.j3 kj21 t197 t198 x11_2 x12_2 false t202 t203 t204 t205)) = some r := by rw [if_neg (show ¬ (false = true) by decide)] at H; exact H
                        clear H
                        have H := H1
                        clear H1
                        have HC51 := Aside0.mk H
                        clear H
                        go_upto_region 16 with (fail)
                        repeat (go_quiet (fail); go_upto_region 16 with (fail))
                        go_cut [116] (fun v116 wc => ∃ (kq : Nat) (x116_50 : Bool), v116 = .bool x116_50 ∧ Aside0 (dialtonelaw14_LifeStays.j3 kq t197 t198 x11_2 x12_2 x116_50 t202 t203 t204 t205 = some r) ∧ Aside0 (kq ≤ kj21) ∧ Aside0 (Kd.R k62 62 wc w.heap.size (fun _ => True) (.slice (some ad208) t198.length co23) t198) ∧ Aside0 (wc.heap[gb207]? = some (.cells #[.int .i64 t202, .int .i64 t203, .int .i64 t204, .int .i64 t205] 26 (0, 0))) ∧ Aside0 (wc.heap[gb209]? = some (.cells #[.int .i64 ((rd_T62 t198 x12_2).f2.f0), .int .i64 ((rd_T62 t198 x12_2).f2.f1)] 60 (0, 0))) ∧ Aside0 (Below w.heap.size w wc))
                        case first =>
                          have H := HC51.out
                          clear HC51
                          by_cases c52 : ((rd_T62 t198 x12_2).f2.f0) ≤ t197
                          · rw [if_pos c52] at H
                            have c52b0 : decide (((rd_T62 t198 x12_2).f2.f0) ≤ t197) = true := decide_eq_true c52
                            clear c52
                            (first | rw [c52b0] | (simp only [i64_w, i32_w]; rw [c52b0]) | rw [c52b1] | skip)
                            have H' := Aside0.mk H
                            clear H
                            have hnb53 := NB209_207.out
                            have hnc53 := NB207_209.out
                            have hcz54_0 : wc.cell? ⟨gb209, 0, none⟩ = some (.int .i64 ((rd_T62 t198 x12_2).f2.f0)) := (blk_cell BK209.out 0).trans rfl
                            have hcz54_1 : wc.cell? ⟨gb209, 1, none⟩ = some (.int .i64 ((rd_T62 t198 x12_2).f2.f1)) := (blk_cell BK209.out 1).trans rfl
                            have hfz54_0 := blk_frozen BK209.out 0
                            have hfz54_1 := blk_frozen BK209.out 1
                            go_wp2
                            repeat (go_quiet (fail); try go_wp2)
                            go_meet
                            case rel => exact ⟨_, (decide (t197 < ((rd_T62 t198 x12_2).f2.f1))), (by first | rfl | (simp; done) | (simp [*]; done)), H', ⟨by have := HJ8.out; have := HK2.out; have := HJ21.out; first | omega | exact Nat.le_refl _⟩, ⟨by (with_reducible repeat (first | apply Kd.R_alloc | apply Kd.R_drewN | apply Kd.R_drew)); exact HO_7.out⟩, ⟨by (with_reducible repeat (first | refine blk_drewN ?_ _ | refine blk_drew ?_ | refine blk_alloc ?_ _)); exact BK207.out⟩, ⟨by (with_reducible repeat (first | refine blk_drewN ?_ _ | refine blk_drew ?_ | refine blk_alloc ?_ _)); exact BK209.out⟩, ⟨by repeat (first | (with_reducible first | exact HB.out | apply below_alloc | apply pw_below_drewN | apply below_drew1 | refine below_set ?_ GE207.out | refine below_set ?_ GE209.out) | exact HB.out)⟩⟩
                          · rw [if_neg c52] at H
                            have c52b0 : decide (((rd_T62 t198 x12_2).f2.f0) ≤ t197) = false := decide_eq_false c52
                            clear c52
                            (first | rw [c52b0] | (simp only [i64_w, i32_w]; rw [c52b0]) | rw [c52b1] | skip)
                            have H' := Aside0.mk H
                            clear H
                            have hnb55 := NB209_207.out
                            have hnc55 := NB207_209.out
                            have hcz56_0 : wc.cell? ⟨gb209, 0, none⟩ = some (.int .i64 ((rd_T62 t198 x12_2).f2.f0)) := (blk_cell BK209.out 0).trans rfl
                            have hcz56_1 : wc.cell? ⟨gb209, 1, none⟩ = some (.int .i64 ((rd_T62 t198 x12_2).f2.f1)) := (blk_cell BK209.out 1).trans rfl
                            have hfz56_0 := blk_frozen BK209.out 0
                            have hfz56_1 := blk_frozen BK209.out 1
                            go_wp2
                            repeat (go_quiet (fail); try go_wp2)
                            go_meet
                            case rel => exact ⟨_, (false), (by first | rfl | (simp; done) | (simp [*]; done)), H', ⟨by have := HJ8.out; have := HK2.out; have := HJ21.out; first | omega | exact Nat.le_refl _⟩, ⟨by (with_reducible repeat (first | apply Kd.R_alloc | apply Kd.R_drewN | apply Kd.R_drew)); exact HO_7.out⟩, ⟨by (with_reducible repeat (first | refine blk_drewN ?_ _ | refine blk_drew ?_ | refine blk_alloc ?_ _)); exact BK207.out⟩, ⟨by (with_reducible repeat (first | refine blk_drewN ?_ _ | refine blk_drew ?_ | refine blk_alloc ?_ _)); exact BK209.out⟩, ⟨by repeat (first | (with_reducible first | exact HB.out | apply below_alloc | apply pw_below_drewN | apply below_drew1 | refine below_set ?_ GE207.out | refine below_set ?_ GE209.out) | exact HB.out)⟩⟩
                        case rest =>
                          clear HC51
                          try clear c1
                          try clear c2
                          try clear p2
                          try clear q2
                          try clear hx2
                          try clear c3
                          try clear c4
                          try clear c5
                          try clear p6
                          try clear c8
                          try clear c18
                          try clear c18b0
                          try clear c18b1
                          try clear c19
                          try clear c20
                          try clear c20b0
                          try clear p20
                          try clear q20
                          try clear hx20
                          try clear c21
                          try clear c21b0
                          try clear p21
                          try clear q21
                          try clear hx21
                          try clear c25
                          try clear c27
                          try clear c27b0
                          try clear c27b1
                          try clear c28
                          try clear c30
                          try clear c30b0
                          try clear c31
                          try clear c33
                          try clear c33b0
                          try clear c34
                          try clear c36
                          try clear c36b0
                          try clear c38
                          try clear c38b0
                          try clear c39
                          try clear c39b0
                          try clear c40
                          try clear c40b0
                          try clear c41
                          try clear c43
                          try clear c43b0
                          try clear c43b1
                          try clear c44
                          try clear c46
                          try clear c48
                          try clear c50
                          try clear c52
                          try clear c52b0
                          try clear c52b1
                          try clear c53
                          try clear c55
                          try clear hcz17_0
                          try clear hcz17_1
                          try clear hcz17_2
                          try clear hcz17_3
                          try clear hcz26_0
                          try clear hcz26_1
                          try clear hcz29_0
                          try clear hcz29_1
                          try clear hcz32_0
                          try clear hcz32_1
                          try clear hcz35_0
                          try clear hcz35_1
                          try clear hcz42_0
                          try clear hcz42_1
                          try clear hcz45_0
                          try clear hcz45_1
                          try clear hcz47_0
                          try clear hcz47_1
                          try clear hcz49_0
                          try clear hcz49_1
                          try clear hcz54_0
                          try clear hcz54_1
                          try clear hcz56_0
                          try clear hcz56_1
                          try clear hfz17_0
                          try clear hfz17_1
                          try clear hfz17_2
                          try clear hfz17_3
                          try clear hfz26_0
                          try clear hfz26_1
                          try clear hfz29_0
                          try clear hfz29_1
                          try clear hfz32_0
                          try clear hfz32_1
                          try clear hfz35_0
                          try clear hfz35_1
                          try clear hfz42_0
                          try clear hfz42_1
                          try clear hfz45_0
                          try clear hfz45_1
                          try clear hfz47_0
                          try clear hfz47_1
                          try clear hfz49_0
                          try clear hfz49_1
                          try clear hfz54_0
                          try clear hfz54_1
                          try clear hfz56_0
                          try clear hfz56_1
                          try clear hx208_0
                          try clear hx208_1
                          try clear hx208_2
                          try clear hx208_3
                          try clear hx210_0
                          try clear hx210_1
                          try clear hx210_2
                          try clear hx210_3
                          try clear hx211_0
                          try clear hx211_1
                          try clear hx211_2
                          try clear hx211_3
                          try clear hx212_0
                          try clear hx212_1
                          try clear hx212_2
                          try clear hx212_3
                          try clear hx213_0
                          try clear hx213_1
                          try clear hx213_2
                          try clear hx213_3
                          try clear p2
                          try clear p20
                          try clear p208
                          try clear p21
                          try clear p210
                          try clear p211
                          try clear p212
                          try clear p213
                          try clear p6
                          try clear q2
                          try clear q20
                          try clear q208
                          try clear q21
                          try clear q210
                          try clear q211
                          try clear q212
                          try clear q213
                          obtain ⟨kq, x116_50, rfl, HA, HJ50, HO_7, BK207, BK209, HB⟩ := hcut
                          cases kq with
                          | zero => exact absurd HA.out (by simp [dialtonelaw14_LifeStays.j3])
                          | succ kj50 =>
                            have H := HA.out
                            clear HA
                            simp only [dialtonelaw14_LifeStays.j3] at H
                            by_cases c57 : x116_50 = true
                            · subst c57
                              have H1 : (if 0 ≤ x12_2 then (if x12_2 < (t198.length : Int) then (if ((rd_T62 t198 x12_2).f1) = t204 then (if ((rd_T62 t198 x12_2).f0) = t203 then (dialtonelaw14_LifeStays.l0 kj50 t197 t198 (wrap64 (x11_2 + 1)) (wrap64 (x12_2 + 1)) t202 t203 t204 t205) else (some false)) else (some false)) else (none)) else (none)) = some r := by rw [if_pos rfl] at H; exact H
                              clear H
                              have H := H1
                              clear H1
                              by_cases c58 : 0 ≤ x12_2
                              · rw [if_pos c58] at H
                                have c58b0 : decide (0 ≤ x12_2) = true := decide_eq_true c58
                                clear c58
                                by_cases c59 : x12_2 < (t198.length : Int)
                                · rw [if_pos c59] at H
                                  have c59b0 : decide (x12_2 < (t198.length : Int)) = true := decide_eq_true c59
                                  clear c59
                                  by_cases c60 : ((rd_T62 t198 x12_2).f1) = t204
                                  · rw [if_pos c60] at H
                                    have c60b0 : (((rd_T62 t198 x12_2).f1) == t204) = true := beq_iff_eq.mpr c60
                                    have c60b1 : (((rd_T62 t198 x12_2).f1) != t204) = false := bne_eq_false_iff_eq.mpr c60
                                    clear c60
                                    by_cases c61 : ((rd_T62 t198 x12_2).f0) = t203
                                    · rw [if_pos c61] at H
                                      have c61b0 : (((rd_T62 t198 x12_2).f0) == t203) = true := beq_iff_eq.mpr c61
                                      have c61b1 : (((rd_T62 t198 x12_2).f0) != t203) = false := bne_eq_false_iff_eq.mpr c61
                                      clear c61
                                      have H' := Aside0.mk H
                                      clear H
                                      have p214 : 0 ≤ (x12_2 : Int) := of_decide_eq_true (by first | (with_reducible assumption) | assumption)
                                      have q214 : x12_2 < (t198.length : Int) := of_decide_eq_true (by first | (with_reducible assumption) | assumption)
                                      obtain ⟨ad214, e214, hx214_0, hx214_1, hx214_2, hx214_3⟩ := at_T62 (Kd.R_reads' HO_7.out).2.2 x12_2 p214 q214
                                      obtain rfl : ad208 = ad214 := (by injection e214)
                                      replace p214 := eq_true p214
                                      replace q214 := eq_true q214
                                      have hnb62 := NB207_209.out
                                      have hnc62 := NB209_207.out
                                      have hcz63_0 : wc.cell? ⟨gb207, 0, none⟩ = some (.int .i64 t202) := (blk_cell BK207.out 0).trans rfl
                                      have hcz63_1 : wc.cell? ⟨gb207, 1, none⟩ = some (.int .i64 t203) := (blk_cell BK207.out 1).trans rfl
                                      have hcz63_2 : wc.cell? ⟨gb207, 2, none⟩ = some (.int .i64 t204) := (blk_cell BK207.out 2).trans rfl
                                      have hcz63_3 : wc.cell? ⟨gb207, 3, none⟩ = some (.int .i64 t205) := (blk_cell BK207.out 3).trans rfl
                                      have hfz63_0 := blk_frozen BK207.out 0
                                      have hfz63_1 := blk_frozen BK207.out 1
                                      have hfz63_2 := blk_frozen BK207.out 2
                                      have hfz63_3 := blk_frozen BK207.out 3
                                      have p215 : 0 ≤ (x12_2 : Int) := of_decide_eq_true (by first | (with_reducible assumption) | assumption)
                                      have q215 : x12_2 < (t198.length : Int) := of_decide_eq_true (by first | (with_reducible assumption) | assumption)
                                      obtain ⟨ad215, e215, hx215_0, hx215_1, hx215_2, hx215_3⟩ := at_T62 (Kd.R_reads' HO_7.out).2.2 x12_2 p215 q215
                                      obtain rfl : ad208 = ad215 := (by injection e215)
                                      replace p215 := eq_true p215
                                      replace q215 := eq_true q215
                                      go_wp2
                                      repeat (go_quiet (fail); try go_wp2)
                                      go_roundg kj50
                                      case measure => have := HJ8.out; have := HK2.out; have := HJ21.out; have := HJ50.out; omega
                                      case rel => exact ⟨(wrap64 (x11_2 + 1)), (wrap64 (x12_2 + 1)), (by first | rfl | (simp; done) | (simp [*]; done)), (by first | rfl | (simp; done) | (simp [*]; done)), H', ⟨by have := HJ8.out; have := HK2.out; have := HJ21.out; have := HJ50.out; omega⟩, ⟨by (with_reducible repeat (first | apply Kd.R_alloc | apply Kd.R_drewN | apply Kd.R_drew)); exact HO_7.out⟩, ⟨by (with_reducible repeat (first | refine blk_drewN ?_ _ | refine blk_drew ?_ | refine blk_alloc ?_ _)); exact BK207.out⟩, ⟨by repeat (first | (with_reducible first | exact HB.out | apply below_alloc | apply pw_below_drewN | apply below_drew1 | refine below_set ?_ GE207.out | refine below_set ?_ GE209.out) | exact HB.out)⟩⟩
                                    · rw [if_neg c61] at H
                                      have c61b0 : (((rd_T62 t198 x12_2).f0) == t203) = false := beq_eq_false_iff_ne.mpr c61
                                      have c61b1 : (((rd_T62 t198 x12_2).f0) != t203) = true := bne_iff_ne.mpr c61
                                      obtain rfl := Option.some.inj H
                                      have p214 : 0 ≤ (x12_2 : Int) := of_decide_eq_true (by first | (with_reducible assumption) | assumption)
                                      have q214 : x12_2 < (t198.length : Int) := of_decide_eq_true (by first | (with_reducible assumption) | assumption)
                                      obtain ⟨ad214, e214, hx214_0, hx214_1, hx214_2, hx214_3⟩ := at_T62 (Kd.R_reads' HO_7.out).2.2 x12_2 p214 q214
                                      obtain rfl : ad208 = ad214 := (by injection e214)
                                      replace p214 := eq_true p214
                                      replace q214 := eq_true q214
                                      have hnb64 := NB207_209.out
                                      have hnc64 := NB209_207.out
                                      have hcz65_0 : wc.cell? ⟨gb207, 0, none⟩ = some (.int .i64 t202) := (blk_cell BK207.out 0).trans rfl
                                      have hcz65_1 : wc.cell? ⟨gb207, 1, none⟩ = some (.int .i64 t203) := (blk_cell BK207.out 1).trans rfl
                                      have hcz65_2 : wc.cell? ⟨gb207, 2, none⟩ = some (.int .i64 t204) := (blk_cell BK207.out 2).trans rfl
                                      have hcz65_3 : wc.cell? ⟨gb207, 3, none⟩ = some (.int .i64 t205) := (blk_cell BK207.out 3).trans rfl
                                      have hfz65_0 := blk_frozen BK207.out 0
                                      have hfz65_1 := blk_frozen BK207.out 1
                                      have hfz65_2 := blk_frozen BK207.out 2
                                      have hfz65_3 := blk_frozen BK207.out 3
                                      have p215 : 0 ≤ (x12_2 : Int) := of_decide_eq_true (by first | (with_reducible assumption) | assumption)
                                      have q215 : x12_2 < (t198.length : Int) := of_decide_eq_true (by first | (with_reducible assumption) | assumption)
                                      obtain ⟨ad215, e215, hx215_0, hx215_1, hx215_2, hx215_3⟩ := at_T62 (Kd.R_reads' HO_7.out).2.2 x12_2 p215 q215
                                      obtain rfl : ad208 = ad215 := (by injection e215)
                                      replace p215 := eq_true p215
                                      replace q215 := eq_true q215
                                      go_wp2
                                      repeat (go_quiet (fail); try go_wp2)
                                      go_ret
                                      exact ⟨by first | rfl | (simp [errW_none, errW_some] <;> rfl) | (simp [*, errW_none, errW_some] <;> rfl), by repeat (first | (with_reducible first | exact HB.out | apply below_alloc | apply pw_below_drewN | apply below_drew1 | refine below_set ?_ GE207.out | refine below_set ?_ GE209.out) | exact HB.out)⟩
                                  · rw [if_neg c60] at H
                                    have c60b0 : (((rd_T62 t198 x12_2).f1) == t204) = false := beq_eq_false_iff_ne.mpr c60
                                    have c60b1 : (((rd_T62 t198 x12_2).f1) != t204) = true := bne_iff_ne.mpr c60
                                    obtain rfl := Option.some.inj H
                                    have p214 : 0 ≤ (x12_2 : Int) := of_decide_eq_true (by first | (with_reducible assumption) | assumption)
                                    have q214 : x12_2 < (t198.length : Int) := of_decide_eq_true (by first | (with_reducible assumption) | assumption)
                                    obtain ⟨ad214, e214, hx214_0, hx214_1, hx214_2, hx214_3⟩ := at_T62 (Kd.R_reads' HO_7.out).2.2 x12_2 p214 q214
                                    obtain rfl : ad208 = ad214 := (by injection e214)
                                    replace p214 := eq_true p214
                                    replace q214 := eq_true q214
                                    have hnb66 := NB207_209.out
                                    have hnc66 := NB209_207.out
                                    have hcz67_0 : wc.cell? ⟨gb207, 0, none⟩ = some (.int .i64 t202) := (blk_cell BK207.out 0).trans rfl
                                    have hcz67_1 : wc.cell? ⟨gb207, 1, none⟩ = some (.int .i64 t203) := (blk_cell BK207.out 1).trans rfl
                                    have hcz67_2 : wc.cell? ⟨gb207, 2, none⟩ = some (.int .i64 t204) := (blk_cell BK207.out 2).trans rfl
                                    have hcz67_3 : wc.cell? ⟨gb207, 3, none⟩ = some (.int .i64 t205) := (blk_cell BK207.out 3).trans rfl
                                    have hfz67_0 := blk_frozen BK207.out 0
                                    have hfz67_1 := blk_frozen BK207.out 1
                                    have hfz67_2 := blk_frozen BK207.out 2
                                    have hfz67_3 := blk_frozen BK207.out 3
                                    go_wp2
                                    repeat (go_quiet (fail); try go_wp2)
                                    go_ret
                                    exact ⟨by first | rfl | (simp [errW_none, errW_some] <;> rfl) | (simp [*, errW_none, errW_some] <;> rfl), by repeat (first | (with_reducible first | exact HB.out | apply below_alloc | apply pw_below_drewN | apply below_drew1 | refine below_set ?_ GE207.out | refine below_set ?_ GE209.out) | exact HB.out)⟩
                                · rw [if_neg c59] at H
                                  exact absurd H (by simp)
                              · rw [if_neg c58] at H
                                exact absurd H (by simp)
                            · replace c57 := Bool.eq_false_iff.mpr c57
                              subst c57
                              have H1 : (dialtonelaw14_LifeStays.l0 kj50 t197 t198 x11_2 (wrap64 (x12_2 + 1)) t202 t203 t204 t205) = some r := by rw [if_neg (show ¬ (false = true) by decide)] at H; exact H
                              clear H
                              have H := H1
                              clear H1
                              have H' := Aside0.mk H
                              clear H
                              go_wp2
                              repeat (go_quiet (fail); try go_wp2)
                              go_roundg kj50
                              case measure => have := HJ8.out; have := HK2.out; have := HJ21.out; have := HJ50.out; omega
                              case rel => exact ⟨(x11_2), (wrap64 (x12_2 + 1)), (by first | rfl | (simp; done) | (simp [*]; done)), (by first | rfl | (simp; done) | (simp [*]; done)), H', ⟨by have := HJ8.out; have := HK2.out; have := HJ21.out; have := HJ50.out; omega⟩, ⟨by (with_reducible repeat (first | apply Kd.R_alloc | apply Kd.R_drewN | apply Kd.R_drew)); exact HO_7.out⟩, ⟨by (with_reducible repeat (first | refine blk_drewN ?_ _ | refine blk_drew ?_ | refine blk_alloc ?_ _)); exact BK207.out⟩, ⟨by repeat (first | (with_reducible first | exact HB.out | apply below_alloc | apply pw_below_drewN | apply below_drew1 | refine below_set ?_ GE207.out | refine below_set ?_ GE209.out) | exact HB.out)⟩⟩
                · rw [if_neg c21] at H
                  exact absurd H (by simp)
              · rw [if_neg c20] at H
                have c20b0 : decide (x12_2 < (t198.length : Int)) = false := decide_eq_false c20
                clear c20
                by_cases c68 : t202 = 1
                · rw [if_pos c68] at H
                  have c68b0 : (t202 == 1) = true := beq_iff_eq.mpr c68
                  have c68b1 : (t202 != 1) = false := bne_eq_false_iff_eq.mpr c68
                  clear c68
                  by_cases c69 : x11_2 = 1
                  · rw [if_pos c69] at H
                    have c69b0 : (x11_2 == 1) = true := beq_iff_eq.mpr c69
                    have c69b1 : (x11_2 != 1) = false := bne_eq_false_iff_eq.mpr c69
                    clear c69
                    obtain rfl := Option.some.inj H
                    obtain ⟨Ao70, co70, eo70⟩ := Kd.R_slice HO_7.out
                    subst eo70
                    have hcz71_0 : wr.cell? ⟨gb207, 0, none⟩ = some (.int .i64 t202) := (blk_cell BK207.out 0).trans rfl
                    have hcz71_1 : wr.cell? ⟨gb207, 1, none⟩ = some (.int .i64 t203) := (blk_cell BK207.out 1).trans rfl
                    have hcz71_2 : wr.cell? ⟨gb207, 2, none⟩ = some (.int .i64 t204) := (blk_cell BK207.out 2).trans rfl
                    have hcz71_3 : wr.cell? ⟨gb207, 3, none⟩ = some (.int .i64 t205) := (blk_cell BK207.out 3).trans rfl
                    have hfz71_0 := blk_frozen BK207.out 0
                    have hfz71_1 := blk_frozen BK207.out 1
                    have hfz71_2 := blk_frozen BK207.out 2
                    have hfz71_3 := blk_frozen BK207.out 3
                    go_wp2
                    repeat (go_quiet (fail); try go_wp2)
                    go_ret
                    exact ⟨by first | rfl | (simp [errW_none, errW_some] <;> rfl) | (simp [*, errW_none, errW_some] <;> rfl), by repeat (first | (with_reducible first | exact HB.out | apply below_alloc | apply pw_below_drewN | apply below_drew1 | refine below_set ?_ GE207.out) | exact HB.out)⟩
                  · rw [if_neg c69] at H
                    have c69b0 : (x11_2 == 1) = false := beq_eq_false_iff_ne.mpr c69
                    have c69b1 : (x11_2 != 1) = true := bne_iff_ne.mpr c69
                    obtain rfl := Option.some.inj H
                    obtain ⟨Ao72, co72, eo72⟩ := Kd.R_slice HO_7.out
                    subst eo72
                    have hcz73_0 : wr.cell? ⟨gb207, 0, none⟩ = some (.int .i64 t202) := (blk_cell BK207.out 0).trans rfl
                    have hcz73_1 : wr.cell? ⟨gb207, 1, none⟩ = some (.int .i64 t203) := (blk_cell BK207.out 1).trans rfl
                    have hcz73_2 : wr.cell? ⟨gb207, 2, none⟩ = some (.int .i64 t204) := (blk_cell BK207.out 2).trans rfl
                    have hcz73_3 : wr.cell? ⟨gb207, 3, none⟩ = some (.int .i64 t205) := (blk_cell BK207.out 3).trans rfl
                    have hfz73_0 := blk_frozen BK207.out 0
                    have hfz73_1 := blk_frozen BK207.out 1
                    have hfz73_2 := blk_frozen BK207.out 2
                    have hfz73_3 := blk_frozen BK207.out 3
                    go_wp2
                    repeat (go_quiet (fail); try go_wp2)
                    go_ret
                    exact ⟨by first | rfl | (simp [errW_none, errW_some] <;> rfl) | (simp [*, errW_none, errW_some] <;> rfl), by repeat (first | (with_reducible first | exact HB.out | apply below_alloc | apply pw_below_drewN | apply below_drew1 | refine below_set ?_ GE207.out) | exact HB.out)⟩
                · rw [if_neg c68] at H
                  have c68b0 : (t202 == 1) = false := beq_eq_false_iff_ne.mpr c68
                  have c68b1 : (t202 != 1) = true := bne_iff_ne.mpr c68
                  by_cases c74 : t202 = 2
                  · rw [if_pos c74] at H
                    have c74b0 : (t202 == 2) = true := beq_iff_eq.mpr c74
                    have c74b1 : (t202 != 2) = false := bne_eq_false_iff_eq.mpr c74
                    clear c74
                    by_cases c75 : x11_2 = 1
                    · rw [if_pos c75] at H
                      have c75b0 : (x11_2 == 1) = true := beq_iff_eq.mpr c75
                      have c75b1 : (x11_2 != 1) = false := bne_eq_false_iff_eq.mpr c75
                      clear c75
                      obtain rfl := Option.some.inj H
                      obtain ⟨Ao76, co76, eo76⟩ := Kd.R_slice HO_7.out
                      subst eo76
                      have hcz77_0 : wr.cell? ⟨gb207, 0, none⟩ = some (.int .i64 t202) := (blk_cell BK207.out 0).trans rfl
                      have hcz77_1 : wr.cell? ⟨gb207, 1, none⟩ = some (.int .i64 t203) := (blk_cell BK207.out 1).trans rfl
                      have hcz77_2 : wr.cell? ⟨gb207, 2, none⟩ = some (.int .i64 t204) := (blk_cell BK207.out 2).trans rfl
                      have hcz77_3 : wr.cell? ⟨gb207, 3, none⟩ = some (.int .i64 t205) := (blk_cell BK207.out 3).trans rfl
                      have hfz77_0 := blk_frozen BK207.out 0
                      have hfz77_1 := blk_frozen BK207.out 1
                      have hfz77_2 := blk_frozen BK207.out 2
                      have hfz77_3 := blk_frozen BK207.out 3
                      go_wp2
                      repeat (go_quiet (fail); try go_wp2)
                      go_ret
                      exact ⟨by first | rfl | (simp [errW_none, errW_some] <;> rfl) | (simp [*, errW_none, errW_some] <;> rfl), by repeat (first | (with_reducible first | exact HB.out | apply below_alloc | apply pw_below_drewN | apply below_drew1 | refine below_set ?_ GE207.out) | exact HB.out)⟩
                    · rw [if_neg c75] at H
                      have c75b0 : (x11_2 == 1) = false := beq_eq_false_iff_ne.mpr c75
                      have c75b1 : (x11_2 != 1) = true := bne_iff_ne.mpr c75
                      obtain rfl := Option.some.inj H
                      obtain ⟨Ao78, co78, eo78⟩ := Kd.R_slice HO_7.out
                      subst eo78
                      have hcz79_0 : wr.cell? ⟨gb207, 0, none⟩ = some (.int .i64 t202) := (blk_cell BK207.out 0).trans rfl
                      have hcz79_1 : wr.cell? ⟨gb207, 1, none⟩ = some (.int .i64 t203) := (blk_cell BK207.out 1).trans rfl
                      have hcz79_2 : wr.cell? ⟨gb207, 2, none⟩ = some (.int .i64 t204) := (blk_cell BK207.out 2).trans rfl
                      have hcz79_3 : wr.cell? ⟨gb207, 3, none⟩ = some (.int .i64 t205) := (blk_cell BK207.out 3).trans rfl
                      have hfz79_0 := blk_frozen BK207.out 0
                      have hfz79_1 := blk_frozen BK207.out 1
                      have hfz79_2 := blk_frozen BK207.out 2
                      have hfz79_3 := blk_frozen BK207.out 3
                      go_wp2
                      repeat (go_quiet (fail); try go_wp2)
                      go_ret
                      exact ⟨by first | rfl | (simp [errW_none, errW_some] <;> rfl) | (simp [*, errW_none, errW_some] <;> rfl), by repeat (first | (with_reducible first | exact HB.out | apply below_alloc | apply pw_below_drewN | apply below_drew1 | refine below_set ?_ GE207.out) | exact HB.out)⟩
                  · rw [if_neg c74] at H
                    have c74b0 : (t202 == 2) = false := beq_eq_false_iff_ne.mpr c74
                    have c74b1 : (t202 != 2) = true := bne_iff_ne.mpr c74
                    obtain rfl := Option.some.inj H
                    obtain ⟨Ao80, co80, eo80⟩ := Kd.R_slice HO_7.out
                    subst eo80
                    have hcz81_0 : wr.cell? ⟨gb207, 0, none⟩ = some (.int .i64 t202) := (blk_cell BK207.out 0).trans rfl
                    have hcz81_1 : wr.cell? ⟨gb207, 1, none⟩ = some (.int .i64 t203) := (blk_cell BK207.out 1).trans rfl
                    have hcz81_2 : wr.cell? ⟨gb207, 2, none⟩ = some (.int .i64 t204) := (blk_cell BK207.out 2).trans rfl
                    have hcz81_3 : wr.cell? ⟨gb207, 3, none⟩ = some (.int .i64 t205) := (blk_cell BK207.out 3).trans rfl
                    have hfz81_0 := blk_frozen BK207.out 0
                    have hfz81_1 := blk_frozen BK207.out 1
                    have hfz81_2 := blk_frozen BK207.out 2
                    have hfz81_3 := blk_frozen BK207.out 3
                    go_wp2
                    repeat (go_quiet (fail); try go_wp2)
                    go_ret
                    exact ⟨by first | rfl | (simp [errW_none, errW_some] <;> rfl) | (simp [*, errW_none, errW_some] <;> rfl), by repeat (first | (with_reducible first | exact HB.out | apply below_alloc | apply pw_below_drewN | apply below_drew1 | refine below_set ?_ GE207.out) | exact HB.out)⟩
  · replace c4 := Bool.eq_false_iff.mpr c4
    subst c4
    have H1 : (some false) = some r := by rw [if_neg (show ¬ (false = true) by decide)] at H; exact H
    clear H
    have H := H1
    clear H1
    obtain rfl := Option.some.inj H
    go_enter Try.func8, Try.ntmps8
    go_wp2_with (first | (go_at_call 13; (with_reducible refine (dialtonelaw14_sane.calls  false _ A3.out).mono ?_); rintro e w82 ⟨rfl, hb⟩; have n0_ := Aside0.mk (below_step (by repeat (first | (with_reducible first | exact HB.out | apply below_alloc | apply pw_below_drewN | apply below_drew1) | exact HB.out)) hb); clear HB; have HB := n0_; clear n0_; (try clear hb); (try clear hb2); (try clear hk); (try clear hi)))
    repeat (go_quiet (first | (go_at_call 13; (with_reducible refine (dialtonelaw14_sane.calls  false _ A3.out).mono ?_); rintro e w82 ⟨rfl, hb⟩; have n0_ := Aside0.mk (below_step (by repeat (first | (with_reducible first | exact HB.out | apply below_alloc | apply pw_below_drewN | apply below_drew1) | exact HB.out)) hb); clear HB; have HB := n0_; clear n0_; (try clear hb); (try clear hb2); (try clear hk); (try clear hi))); try go_wp2_with (first | (go_at_call 13; (with_reducible refine (dialtonelaw14_sane.calls  false _ A3.out).mono ?_); rintro e w82 ⟨rfl, hb⟩; have n0_ := Aside0.mk (below_step (by repeat (first | (with_reducible first | exact HB.out | apply below_alloc | apply pw_below_drewN | apply below_drew1) | exact HB.out)) hb); clear HB; have HB := n0_; clear n0_; (try clear hb); (try clear hb2); (try clear hk); (try clear hi))))
    go_ret
    exact ⟨by first | rfl | (simp [errW_none, errW_some] <;> rfl) | (simp [*, errW_none, errW_some] <;> rfl), by repeat (first | (with_reducible first | exact HB.out | apply below_alloc | apply pw_below_drewN | apply below_drew1) | exact HB.out)⟩

end Go.Proofs.Yteilkigdlkeiaaa.Q
