/- Printed out of the translation by a program: functions and their contracts. -/
import Derived.Test.YteilkigdlkeiaaaQ0
namespace Go.Proofs.Yteilkigdlkeiaaa.Q
attribute [local go_sem] Go.Proofs.Yteilkigdlkeiaaa.St.cell_map Option.map_some
open Go.RowKit Go.Proofs.YteilkigdlkeiaaaW.PrintWords Go.Proofs.YteilkigdlkeiaaaW.PrintLast Go.Proofs.YteilkigdlkeiaaaW.PrintMore
attribute [local go_sem] max2_int min2_int max_two min_two max_three min_three max_four min_four   -- for this text's walks alone
set_option linter.unusedVariables false
set_option linter.unusedSimpArgs false

/-! ### dialtoneref14_pick: function 41 -/
def dialtoneref14_pick.f (a0 : Int) (a1 : Int) : Option (Int) := if a0 < 0 then (if a1 = 0 then (none) else (some (Int.tmod (wrap64 (-(wrap64 (a0 + 1)))) a1))) else (if a1 = 0 then (none) else (some (Int.tmod a0 a1)))
set_option maxHeartbeats 8000000 in
set_option maxRecDepth 100000 in
theorem dialtoneref14_pick.calls (a0 : Int) (a1 : Int) (r : Int) (w : World) (h : dialtoneref14_pick.f a0 a1 = some r) :
    Calls Try.prog 41 #[.int .i64 a0, .int .i64 a1] w fun e w' => e = .returned (.int .i64 r) ∧ Drawn0 w w' := by
  have H : (if a0 < 0 then (if a1 = 0 then (none) else (some (Int.tmod (wrap64 (-(wrap64 (a0 + 1)))) a1))) else (if a1 = 0 then (none) else (some (Int.tmod a0 a1)))) = some r := h
  clear h
  by_cases c3 : a0 < 0
  · rw [if_pos c3] at H
    have c3b0 : decide (a0 < 0) = true := decide_eq_true c3
    clear c3
    by_cases c4 : a1 = 0
    · rw [if_pos c4] at H
      exact absurd H (by simp)
    · rw [if_neg c4] at H
      have c4b0 : (a1 == 0) = false := beq_eq_false_iff_ne.mpr c4
      have c4b1 : (a1 != 0) = true := bne_iff_ne.mpr c4
      obtain rfl := Option.some.inj H
      go_enter Try.func41, Try.ntmps41
      go_wp2
      go_ret
      exact ⟨by first | rfl | (simp; done) | (simp [*]; done), by repeat (first | exact Drawn0.refl _ | apply Drawn0.step)⟩
  · rw [if_neg c3] at H
    have c3b0 : decide (a0 < 0) = false := decide_eq_false c3
    clear c3
    by_cases c5 : a1 = 0
    · rw [if_pos c5] at H
      exact absurd H (by simp)
    · rw [if_neg c5] at H
      have c5b0 : (a1 == 0) = false := beq_eq_false_iff_ne.mpr c5
      have c5b1 : (a1 != 0) = true := bne_iff_ne.mpr c5
      obtain rfl := Option.some.inj H
      go_enter Try.func41, Try.ntmps41
      go_wp2
      go_ret
      exact ⟨by first | rfl | (simp; done) | (simp [*]; done), by repeat (first | exact Drawn0.refl _ | apply Drawn0.step)⟩

/-! ### dialtoneref14_Time: function 24 -/
def dialtoneref14_Time.f (l0 : List (S54)) (a1 : Int) : Option (Int) := (dialtoneref14_pick.f a1 (wrap64 ((l0.length : Int) + 2))).bind fun t121 => (if t121 < (l0.length : Int) then (if 0 ≤ t121 then ((dialtoneref14_pick.f (wrap64 (Int.tdiv a1 64)) 3).bind fun t123 => (some (mn (mx (wrap64 ((wrap64 (((rd_T54 l0 t121).f1) + t123)) - 1)) 0) 10000000))) else (none)) else (if t121 = (l0.length : Int) then ((dialtoneref14_pick.f (wrap64 (Int.tdiv a1 64)) 3).bind fun t124 => (some (mn (mx (wrap64 ((wrap64 (10000000 + t124)) - 1)) 0) 10000000))) else ((dialtoneref14_pick.f (wrap64 (Int.tdiv a1 64)) 3).bind fun t125 => (some (mn (mx (wrap64 ((wrap64 (t125)) - 1)) 0) 10000000)))))
set_option maxHeartbeats 8000000 in
set_option maxRecDepth 100000 in
theorem dialtoneref14_Time.calls (A0 : Option Addr) (c0 : Nat) (l0 : List (S54)) (a1 : Int) (r : Int) (w : World) (hr0 : Kd.C k54 w A0 l0.length l0) (hc0 : l0.length ≤ c0) (h : dialtoneref14_Time.f l0 a1 = some r) :
    Calls Try.prog 24 #[.slice A0 l0.length c0, .int .i64 a1] w fun e w' => e = .returned (.int .i64 r) ∧ Below w.heap.size w w' := by
  have HR0 := Aside0.mk hr0
  have HC0 := Aside0.mk hc0
  clear hr0 hc0
  have HB := Aside0.mk (Below.refl w.heap.size w)
  have H : ((dialtoneref14_pick.f a1 (wrap64 ((l0.length : Int) + 2))).bind fun t121 => (if t121 < (l0.length : Int) then (if 0 ≤ t121 then ((dialtoneref14_pick.f (wrap64 (Int.tdiv a1 64)) 3).bind fun t123 => (some (mn (mx (wrap64 ((wrap64 (((rd_T54 l0 t121).f1) + t123)) - 1)) 0) 10000000))) else (none)) else (if t121 = (l0.length : Int) then ((dialtoneref14_pick.f (wrap64 (Int.tdiv a1 64)) 3).bind fun t124 => (some (mn (mx (wrap64 ((wrap64 (10000000 + t124)) - 1)) 0) 10000000))) else ((dialtoneref14_pick.f (wrap64 (Int.tdiv a1 64)) 3).bind fun t125 => (some (mn (mx (wrap64 ((wrap64 (t125)) - 1)) 0) 10000000)))))) = some r := h
  clear h
  replace H := Option.bind_eq_some_iff.mp H
  obtain ⟨t121, A30, H⟩ := H
  replace H : (if t121 < (l0.length : Int) then (if 0 ≤ t121 then ((dialtoneref14_pick.f (wrap64 (Int.tdiv a1 64)) 3).bind fun t123 => (some (mn (mx (wrap64 ((wrap64 (((rd_T54 l0 t121).f1) + t123)) - 1)) 0) 10000000))) else (none)) else (if t121 = (l0.length : Int) then ((dialtoneref14_pick.f (wrap64 (Int.tdiv a1 64)) 3).bind fun t124 => (some (mn (mx (wrap64 ((wrap64 (10000000 + t124)) - 1)) 0) 10000000))) else ((dialtoneref14_pick.f (wrap64 (Int.tdiv a1 64)) 3).bind fun t125 => (some (mn (mx (wrap64 ((wrap64 (t125)) - 1)) 0) 10000000))))) = some r := H
  have A3 := Aside0.mk A30
  clear A30
  by_cases c4 : t121 < (l0.length : Int)
  · rw [if_pos c4] at H
    have c4b0 : decide (t121 < (l0.length : Int)) = true := decide_eq_true c4
    clear c4
    by_cases c5 : 0 ≤ t121
    · rw [if_pos c5] at H
      have c5b0 : decide (0 ≤ t121) = true := decide_eq_true c5
      clear c5
      replace H := Option.bind_eq_some_iff.mp H
      obtain ⟨t123, A60, H⟩ := H
      replace H : (some (mn (mx (wrap64 ((wrap64 (((rd_T54 l0 t121).f1) + t123)) - 1)) 0) 10000000)) = some r := H
      have A6 := Aside0.mk A60
      clear A60
      obtain ⟨ji7, hji7⟩ : ∃ j_ : Int, (mx (wrap64 ((wrap64 (((rd_T54 l0 t121).f1) + t123)) - 1)) 0) = j_ := ⟨_, rfl⟩
      replace H : (some (mn (ji7) 10000000)) = some r := by first | (rw [hji7] at H; exact H) | (simp only [hji7] at H ⊢; exact H)
      (try rw [hji7] at A3)
      (try rw [hji7] at A6)
      (try (have hji7l : 0 ≤ ji7 := by (rw [← hji7]; unfold mx; (repeat' split) <;> omega)))
      (try (have hji7m : 0 ≤ ji7 := by omega))
      have hji7_ : (if (wrap64 ((wrap64 (((rd_T54 l0 t121).f1) + t123)) - 1)) < 0 then 0 else (wrap64 ((wrap64 (((rd_T54 l0 t121).f1) + t123)) - 1))) = ji7 := hji7
      obtain ⟨ji8, hji8⟩ : ∃ j_ : Int, (mn (ji7) 10000000) = j_ := ⟨_, rfl⟩
      replace H : (some ji8) = some r := by first | (rw [hji8] at H; exact H) | (simp only [hji8] at H ⊢; exact H)
      (try rw [hji8] at A3)
      (try rw [hji8] at A6)
      have hji8_ : (if 10000000 < (ji7) then 10000000 else (ji7)) = ji8 := hji8
      obtain rfl := Option.some.inj H
      go_enter Try.func24, Try.ntmps24
      go_wp2_with (first | ((with_reducible refine gate_callee (f := 41) rfl ?_); refine goesL_ (some 11) rfl rfl Try.func41 (by kernel_rfl) rfl #[.int .i64 a1, .int .i64 (wrap64 ((l0.length : Int) + 2))] rfl (by (try simp only [List.map_toArray, List.map_cons, List.map_nil]); first | done | rfl | (simp only [List.length_drop, List.length_take]; rfl)) ?_; (with_reducible refine (dialtoneref14_pick.calls a1 (wrap64 ((l0.length : Int) + 2)) t121 _ A3.out).mono ?_); rintro e w' ⟨rfl, ⟨nd, rfl⟩⟩; refine ⟨_, rfl, ?_⟩; have p122 : 0 ≤ (t121 : Int) := of_decide_eq_true (by first | (with_reducible assumption) | assumption); have q122 : t121 < (l0.length : Int) := of_decide_eq_true (by first | (with_reducible assumption) | assumption); obtain ⟨ad122, e122, hx122_0, hx122_1, hx122_2⟩ := at_T54 HR0.out t121 p122 q122; cases e122; replace p122 := eq_true p122; replace q122 := eq_true q122) | ((with_reducible refine gate_callee (f := 41) rfl ?_); refine goesL_ (some 28) rfl rfl Try.func41 (by kernel_rfl) rfl #[.int .i64 (wrap64 (Int.tdiv a1 64)), .int .i64 3] rfl (by (try simp only [List.map_toArray, List.map_cons, List.map_nil]); first | done | rfl | (simp only [List.length_drop, List.length_take]; rfl)) ?_; (with_reducible refine (dialtoneref14_pick.calls (wrap64 (Int.tdiv a1 64)) 3 t123 _ A6.out).mono ?_); rintro e w' ⟨rfl, ⟨nd, rfl⟩⟩; refine ⟨_, rfl, ?_⟩))
      go_ret
      exact ⟨by first | rfl | (simp [errW_none, errW_some] <;> rfl) | (simp only [← hji7, ← hji8]; first | rfl | (simp [errW_none, errW_some] <;> rfl)) | (simp [*, errW_none, errW_some] <;> rfl), by repeat (first | (with_reducible first | exact HB.out | apply below_alloc | apply pw_below_drewN | apply below_drew1) | exact HB.out)⟩
    · rw [if_neg c5] at H
      exact absurd H (by simp)
  · rw [if_neg c4] at H
    have c4b0 : decide (t121 < (l0.length : Int)) = false := decide_eq_false c4
    clear c4
    by_cases c9 : t121 = (l0.length : Int)
    · rw [if_pos c9] at H
      have c9b0 : (t121 == (l0.length : Int)) = true := beq_iff_eq.mpr c9
      have c9b1 : (t121 != (l0.length : Int)) = false := bne_eq_false_iff_eq.mpr c9
      clear c9
      replace H := Option.bind_eq_some_iff.mp H
      obtain ⟨t124, A100, H⟩ := H
      replace H : (some (mn (mx (wrap64 ((wrap64 (10000000 + t124)) - 1)) 0) 10000000)) = some r := H
      have A10 := Aside0.mk A100
      clear A100
      obtain ⟨ji11, hji11⟩ : ∃ j_ : Int, (mx (wrap64 ((wrap64 (10000000 + t124)) - 1)) 0) = j_ := ⟨_, rfl⟩
      replace H : (some (mn (ji11) 10000000)) = some r := by first | (rw [hji11] at H; exact H) | (simp only [hji11] at H ⊢; exact H)
      (try rw [hji11] at A3)
      (try rw [hji11] at A10)
      (try (have hji11l : 0 ≤ ji11 := by (rw [← hji11]; unfold mx; (repeat' split) <;> omega)))
      (try (have hji11m : 0 ≤ ji11 := by omega))
      have hji11_ : (if (wrap64 ((wrap64 (10000000 + t124)) - 1)) < 0 then 0 else (wrap64 ((wrap64 (10000000 + t124)) - 1))) = ji11 := hji11
      obtain ⟨ji12, hji12⟩ : ∃ j_ : Int, (mn (ji11) 10000000) = j_ := ⟨_, rfl⟩
      replace H : (some ji12) = some r := by first | (rw [hji12] at H; exact H) | (simp only [hji12] at H ⊢; exact H)
      (try rw [hji12] at A3)
      (try rw [hji12] at A10)
      have hji12_ : (if 10000000 < (ji11) then 10000000 else (ji11)) = ji12 := hji12
      obtain rfl := Option.some.inj H
      go_enter Try.func24, Try.ntmps24
      go_wp2_with (first | ((with_reducible refine gate_callee (f := 41) rfl ?_); refine goesL_ (some 11) rfl rfl Try.func41 (by kernel_rfl) rfl #[.int .i64 a1, .int .i64 (wrap64 ((l0.length : Int) + 2))] rfl (by (try simp only [List.map_toArray, List.map_cons, List.map_nil]); first | done | rfl | (simp only [List.length_drop, List.length_take]; rfl)) ?_; (with_reducible refine (dialtoneref14_pick.calls a1 (wrap64 ((l0.length : Int) + 2)) t121 _ A3.out).mono ?_); rintro e w' ⟨rfl, ⟨nd, rfl⟩⟩; refine ⟨_, rfl, ?_⟩) | ((with_reducible refine gate_callee (f := 41) rfl ?_); refine goesL_ (some 28) rfl rfl Try.func41 (by kernel_rfl) rfl #[.int .i64 (wrap64 (Int.tdiv a1 64)), .int .i64 3] rfl (by (try simp only [List.map_toArray, List.map_cons, List.map_nil]); first | done | rfl | (simp only [List.length_drop, List.length_take]; rfl)) ?_; (with_reducible refine (dialtoneref14_pick.calls (wrap64 (Int.tdiv a1 64)) 3 t124 _ A10.out).mono ?_); rintro e w' ⟨rfl, ⟨nd, rfl⟩⟩; refine ⟨_, rfl, ?_⟩))
      go_ret
      exact ⟨by first | rfl | (simp [errW_none, errW_some] <;> rfl) | (simp only [← hji11, ← hji12]; first | rfl | (simp [errW_none, errW_some] <;> rfl)) | (simp [*, errW_none, errW_some] <;> rfl), by repeat (first | (with_reducible first | exact HB.out | apply below_alloc | apply pw_below_drewN | apply below_drew1) | exact HB.out)⟩
    · rw [if_neg c9] at H
      have c9b0 : (t121 == (l0.length : Int)) = false := beq_eq_false_iff_ne.mpr c9
      have c9b1 : (t121 != (l0.length : Int)) = true := bne_iff_ne.mpr c9
      replace H := Option.bind_eq_some_iff.mp H
      obtain ⟨t125, A130, H⟩ := H
      replace H : (some (mn (mx (wrap64 ((wrap64 (t125)) - 1)) 0) 10000000)) = some r := H
      have A13 := Aside0.mk A130
      clear A130
      obtain ⟨ji14, hji14⟩ : ∃ j_ : Int, (mx (wrap64 ((wrap64 (t125)) - 1)) 0) = j_ := ⟨_, rfl⟩
      replace H : (some (mn (ji14) 10000000)) = some r := by first | (rw [hji14] at H; exact H) | (simp only [hji14] at H ⊢; exact H)
      (try rw [hji14] at A3)
      (try rw [hji14] at A13)
      (try (have hji14l : 0 ≤ ji14 := by (rw [← hji14]; unfold mx; (repeat' split) <;> omega)))
      (try (have hji14m : 0 ≤ ji14 := by omega))
      have hji14_ : (if (wrap64 ((wrap64 (t125)) - 1)) < 0 then 0 else (wrap64 ((wrap64 (t125)) - 1))) = ji14 := hji14
      obtain ⟨ji15, hji15⟩ : ∃ j_ : Int, (mn (ji14) 10000000) = j_ := ⟨_, rfl⟩
      replace H : (some ji15) = some r := by first | (rw [hji15] at H; exact H) | (simp only [hji15] at H ⊢; exact H)
      (try rw [hji15] at A3)
      (try rw [hji15] at A13)
      have hji15_ : (if 10000000 < (ji14) then 10000000 else (ji14)) = ji15 := hji15
      obtain rfl := Option.some.inj H
      go_enter Try.func24, Try.ntmps24
      go_wp2_with (first | ((with_reducible refine gate_callee (f := 41) rfl ?_); refine goesL_ (some 11) rfl rfl Try.func41 (by kernel_rfl) rfl #[.int .i64 a1, .int .i64 (wrap64 ((l0.length : Int) + 2))] rfl (by (try simp only [List.map_toArray, List.map_cons, List.map_nil]); first | done | rfl | (simp only [List.length_drop, List.length_take]; rfl)) ?_; (with_reducible refine (dialtoneref14_pick.calls a1 (wrap64 ((l0.length : Int) + 2)) t121 _ A3.out).mono ?_); rintro e w' ⟨rfl, ⟨nd, rfl⟩⟩; refine ⟨_, rfl, ?_⟩) | ((with_reducible refine gate_callee (f := 41) rfl ?_); refine goesL_ (some 28) rfl rfl Try.func41 (by kernel_rfl) rfl #[.int .i64 (wrap64 (Int.tdiv a1 64)), .int .i64 3] rfl (by (try simp only [List.map_toArray, List.map_cons, List.map_nil]); first | done | rfl | (simp only [List.length_drop, List.length_take]; rfl)) ?_; (with_reducible refine (dialtoneref14_pick.calls (wrap64 (Int.tdiv a1 64)) 3 t125 _ A13.out).mono ?_); rintro e w' ⟨rfl, ⟨nd, rfl⟩⟩; refine ⟨_, rfl, ?_⟩))
      go_ret
      exact ⟨by first | rfl | (simp [errW_none, errW_some] <;> rfl) | (simp only [← hji14, ← hji15]; first | rfl | (simp [errW_none, errW_some] <;> rfl)) | (simp [*, errW_none, errW_some] <;> rfl), by repeat (first | (with_reducible first | exact HB.out | apply below_alloc | apply pw_below_drewN | apply below_drew1) | exact HB.out)⟩

end Go.Proofs.Yteilkigdlkeiaaa.Q
