/- Printed out of the translation by a program: functions and their contracts. -/
import Derived.Test.YteilkigdlkeiaaaQ15
namespace Go.Proofs.Yteilkigdlkeiaaa.Q
attribute [local go_sem] Go.Proofs.Yteilkigdlkeiaaa.St.cell_map Option.map_some
open Go.RowKit Go.Proofs.YteilkigdlkeiaaaW.PrintWords Go.Proofs.YteilkigdlkeiaaaW.PrintLast Go.Proofs.YteilkigdlkeiaaaW.PrintMore
attribute [local go_sem] max2_int min2_int max_two min_two max_three min_three max_four min_four   -- for this text's walks alone
set_option linter.unusedVariables false
set_option linter.unusedSimpArgs false

attribute [local go_sem high] eqA26
theorem au28 {p : Prop} (h : p := by kernel_rfl) : p := h
theorem au27 {p : Prop} (h : p := by repeat (first | (with_reducible first | exact HB.out | apply below_alloc | apply pw_below_drewN | apply below_drew1 | refine below_set ?_ GE136.out) | exact HB.out)) : p := h
theorem au26 {p : Prop} (h : p := by (with_reducible repeat (first | apply Kd.R_alloc | apply Kd.R_drewN | apply Kd.R_drew)); exact HO_15.out) : p := h
theorem au25 {p : Prop} (h : p := by simp only [putAll, Act.put, List.setIfInBounds_toArray, List.set_cons_zero, List.set_cons_succ]) : p := h
theorem au24 {p : Prop} (h : p := by repeat (first | (with_reducible first | exact HB.out | apply below_alloc | apply pw_below_drewN | apply below_drew1 | refine below_set ?_ GE138.out | refine below_set ?_ GE140.out) | exact HB.out)) : p := h
theorem au23 {p : Prop} (h : p := by repeat (first | (with_reducible first | exact HB.out | apply below_alloc | apply pw_below_drewN | apply below_drew1 | refine below_set ?_ GE136.out | refine below_set ?_ GE138.out | refine below_set ?_ GE140.out | refine below_set ?_ GE165.out) | exact HB.out)) : p := h
theorem au22 {p : Prop} (h : p := by repeat (first | (with_reducible first | exact HB.out | apply below_alloc | apply pw_below_drewN | apply below_drew1 | refine below_set ?_ GE140.out | refine below_set ?_ GE169.out | refine below_set ?_ GE188.out) | exact HB.out)) : p := h
theorem au21 {p : Prop} (h : p := by (with_reducible repeat (first | apply Kd.R_alloc | apply Kd.R_drewN | apply Kd.R_drew)); exact (Kd.R_mono (Kd.R_mono (Kd.R_far (p := ⟨gb140, 1, none⟩) (Kd.R_far (p := ⟨gb188, 3, none⟩) (Kd.R_far (p := ⟨gb188, 2, none⟩) (Kd.R_far (p := ⟨gb188, 1, none⟩) (Kd.R_far (p := ⟨gb188, 0, none⟩) (Kd.R_mono (Kd.R_types HO_9.out BK188.out (by decide)) (fun k_ hk => (⟨hk, hk.1.1.2.2.1⟩ : _ ∧ k_ ≠ gb140))) (fun _ hk => hk.1.2) (.int .i64 t182)) (fun _ hk => hk.1.2) (.int .i64 t183)) (fun _ hk => hk.1.2) (.int .i64 t184)) (fun _ hk => hk.1.2) (.int .i64 t185)) (fun _ hk => hk.2) (.int .i64 (wrap64 (ji11 + 2592000)))) (fun _ h_ => h_.1)) (fun _ h_ => h_.1))) : p := h
theorem au20 {p : Prop} (h : p := by (with_reducible repeat (first | apply Kd.R_alloc | apply Kd.R_drewN | apply Kd.R_drew)); exact (Kd.R_mono (Kd.R_mono (Kd.R_far (p := ⟨gb140, 1, none⟩) (Kd.R_far (p := ⟨gb188, 3, none⟩) (Kd.R_far (p := ⟨gb188, 2, none⟩) (Kd.R_far (p := ⟨gb188, 1, none⟩) (Kd.R_far (p := ⟨gb188, 0, none⟩) (Kd.R_mono (Kd.R_types HO178.out BK188.out (by decide)) (fun k_ hk => (⟨hk, hk.1.1.2.2.1⟩ : _ ∧ k_ ≠ gb140))) (fun _ hk => hk.1.2) (.int .i64 t182)) (fun _ hk => hk.1.2) (.int .i64 t183)) (fun _ hk => hk.1.2) (.int .i64 t184)) (fun _ hk => hk.1.2) (.int .i64 t185)) (fun _ hk => hk.2) (.int .i64 (wrap64 (ji11 + 2592000)))) (fun _ h_ => h_.1)) (fun _ h_ => h_.1))) : p := h
theorem au19 {p : Prop} (h : p := by repeat (first | (with_reducible first | exact HB.out | apply below_alloc | apply pw_below_drewN | apply below_drew1 | refine below_set ?_ GE136.out | refine below_set ?_ GE138.out) | exact HB.out)) : p := h
theorem au18 {p : Prop} (h : p := by (with_reducible repeat (first | apply Kd.R_alloc | apply Kd.R_drewN | apply Kd.R_drew)); exact Kd.R_mono (Kd.R_far (p := ⟨gb140, 1, none⟩) (Kd.R_far (p := ⟨gb188, 3, none⟩) (Kd.R_far (p := ⟨gb188, 2, none⟩) (Kd.R_far (p := ⟨gb188, 1, none⟩) (Kd.R_far (p := ⟨gb188, 0, none⟩) (Kd.R_mono (Kd.R_types HO181.out BK188.out (by decide)) (fun k_ hk => (⟨hk, hk.1.2.2.2.1⟩ : _ ∧ k_ ≠ gb140))) (fun _ hk => hk.1.2) (.int .i64 t182)) (fun _ hk => hk.1.2) (.int .i64 t183)) (fun _ hk => hk.1.2) (.int .i64 t184)) (fun _ hk => hk.1.2) (.int .i64 t185)) (fun _ hk => hk.2) (.int .i64 (wrap64 (ji11 + 2592000)))) (fun _ hk => ⟨hk.1.1.1, ⟨hk.1.1.2.1, ⟨hk.1.1.2.2.2.1, hk.1.1.2.2.2.2⟩⟩⟩)) : p := h
theorem au17 {p : Prop} (h : p := by (with_reducible repeat (first | apply Kd.R_alloc | apply Kd.R_drewN | apply Kd.R_drew)); exact Kd.R_mono (Kd.R_far (p := ⟨gb140, 1, none⟩) (Kd.R_far (p := ⟨gb188, 3, none⟩) (Kd.R_far (p := ⟨gb188, 2, none⟩) (Kd.R_far (p := ⟨gb188, 1, none⟩) (Kd.R_far (p := ⟨gb188, 0, none⟩) (Kd.R_mono (Kd.R_types HO_9.out BK188.out (by decide)) (fun k_ hk => (⟨hk, hk.1.1.2.2.1⟩ : _ ∧ k_ ≠ gb140))) (fun _ hk => hk.1.2) (.int .i64 t182)) (fun _ hk => hk.1.2) (.int .i64 t183)) (fun _ hk => hk.1.2) (.int .i64 t184)) (fun _ hk => hk.1.2) (.int .i64 t185)) (fun _ hk => hk.2) (.int .i64 (wrap64 (ji11 + 2592000)))) (fun _ hk => ⟨⟨hk.1.1.1.1, ⟨hk.1.1.1.2.1, ⟨hk.1.1.1.2.2.1, hk.1.1.1.2.2.2⟩⟩⟩, hk.1.1.2⟩)) : p := h
theorem au16 {p : Prop} (h : p := by (with_reducible repeat (first | apply Kd.R_alloc | apply Kd.R_drewN | apply Kd.R_drew)); exact Kd.R_mono (Kd.R_far (p := ⟨gb140, 1, none⟩) (Kd.R_far (p := ⟨gb188, 3, none⟩) (Kd.R_far (p := ⟨gb188, 2, none⟩) (Kd.R_far (p := ⟨gb188, 1, none⟩) (Kd.R_far (p := ⟨gb188, 0, none⟩) (Kd.R_mono (Kd.R_types HO178.out BK188.out (by decide)) (fun k_ hk => (⟨hk, hk.1.1.2.2.1⟩ : _ ∧ k_ ≠ gb140))) (fun _ hk => hk.1.2) (.int .i64 t182)) (fun _ hk => hk.1.2) (.int .i64 t183)) (fun _ hk => hk.1.2) (.int .i64 t184)) (fun _ hk => hk.1.2) (.int .i64 t185)) (fun _ hk => hk.2) (.int .i64 (wrap64 (ji11 + 2592000)))) (fun _ hk => ⟨⟨hk.1.1.1.1, ⟨hk.1.1.1.2.1, ⟨hk.1.1.1.2.2.1, hk.1.1.1.2.2.2⟩⟩⟩, hk.1.1.2⟩)) : p := h
theorem au15 {p : Prop} (h : p := by repeat (first | (with_reducible first | exact HB.out | apply below_alloc | apply pw_below_drewN | apply below_drew1 | refine below_set ?_ GE140.out | refine below_set ?_ GE169.out) | exact HB.out)) : p := h
theorem au14 {p : Prop} (h : p := by (with_reducible repeat (first | apply Kd.R_alloc | apply Kd.R_drewN | apply Kd.R_drew)); exact HO178.out) : p := h
theorem au13 {p : Prop} (h : p := by (with_reducible repeat (first | refine blk_drewN ?_ _ | refine blk_drew ?_ | refine blk_alloc ?_ _)); refine blk_far ?_ NB188_140.out _; (with_reducible repeat (first | refine blk_drewN ?_ _ | refine blk_drew ?_ | refine blk_alloc ?_ _)); refine blk_put (cs := #[.int .i64 t182, .int .i64 t183, .int .i64 t184, .int .i64 0]) ?_ 3 _ rfl; (with_reducible repeat (first | refine blk_drewN ?_ _ | refine blk_drew ?_ | refine blk_alloc ?_ _)); refine blk_put (cs := #[.int .i64 t182, .int .i64 t183, .int .i64 0, .int .i64 0]) ?_ 2 _ rfl; (with_reducible repeat (first | refine blk_drewN ?_ _ | refine blk_drew ?_ | refine blk_alloc ?_ _)); refine blk_put (cs := #[.int .i64 t182, .int .i64 0, .int .i64 0, .int .i64 0]) ?_ 1 _ rfl; (with_reducible repeat (first | refine blk_drewN ?_ _ | refine blk_drew ?_ | refine blk_alloc ?_ _)); refine blk_put (cs := #[.int .i64 0, .int .i64 0, .int .i64 0, .int .i64 0]) ?_ 0 _ rfl; (with_reducible repeat (first | refine blk_drewN ?_ _ | refine blk_drew ?_ | refine blk_alloc ?_ _)); exact BK188.out) : p := h
theorem au12 {p : Prop} (h : p := by (try simp only [List.map_toArray, List.map_cons, List.map_nil]); first | done | rfl | (simp only [List.length_drop, List.length_take]; rfl)) : p := h
theorem au11 {p : Prop} (h : p := by (with_reducible repeat (first | apply Kd.R_alloc | apply Kd.R_drewN | apply Kd.R_drew)); exact HO129.out) : p := h
theorem au10 {p : Prop} (h : p := by repeat (first | (with_reducible first | exact HB.out | apply below_alloc | apply pw_below_drewN | apply below_drew1) | exact HB.out)) : p := h
theorem au9 {p : Prop} (h : p := by (with_reducible repeat (first | refine blk_drewN ?_ _ | refine blk_drew ?_ | refine blk_alloc ?_ _)); exact BK169.out) : p := h
theorem au8 {p : Prop} (h : p := by (with_reducible repeat (first | apply Kd.R_alloc | apply Kd.R_drewN | apply Kd.R_drew)); exact HO_9.out) : p := h
theorem au7 {p : Prop} (h : p := by (with_reducible repeat (first | refine blk_drewN ?_ _ | refine blk_drew ?_ | refine blk_alloc ?_ _)); refine blk_far ?_ NB169_140.out _; (with_reducible repeat (first | refine blk_drewN ?_ _ | refine blk_drew ?_ | refine blk_alloc ?_ _)); refine blk_far ?_ NB169_188.out _; (with_reducible repeat (first | refine blk_drewN ?_ _ | refine blk_drew ?_ | refine blk_alloc ?_ _)); refine blk_far ?_ NB169_188.out _; (with_reducible repeat (first | refine blk_drewN ?_ _ | refine blk_drew ?_ | refine blk_alloc ?_ _)); refine blk_far ?_ NB169_188.out _; (with_reducible repeat (first | refine blk_drewN ?_ _ | refine blk_drew ?_ | refine blk_alloc ?_ _)); refine blk_far ?_ NB169_188.out _; (with_reducible repeat (first | refine blk_drewN ?_ _ | refine blk_drew ?_ | refine blk_alloc ?_ _)); exact BK169.out) : p := h
theorem au6 {p : Prop} (h : p := by (with_reducible repeat (first | refine blk_drewN ?_ _ | refine blk_drew ?_ | refine blk_alloc ?_ _)); refine blk_put (cs := #[.int .i64 6, .int .i64 ji13, .int .i64 (-1)]) ?_ 1 _ rfl; (with_reducible repeat (first | refine blk_drewN ?_ _ | refine blk_drew ?_ | refine blk_alloc ?_ _)); refine blk_far ?_ NB140_188.out _; (with_reducible repeat (first | refine blk_drewN ?_ _ | refine blk_drew ?_ | refine blk_alloc ?_ _)); refine blk_far ?_ NB140_188.out _; (with_reducible repeat (first | refine blk_drewN ?_ _ | refine blk_drew ?_ | refine blk_alloc ?_ _)); refine blk_far ?_ NB140_188.out _; (with_reducible repeat (first | refine blk_drewN ?_ _ | refine blk_drew ?_ | refine blk_alloc ?_ _)); refine blk_far ?_ NB140_188.out _; (with_reducible repeat (first | refine blk_drewN ?_ _ | refine blk_drew ?_ | refine blk_alloc ?_ _)); exact BK140.out) : p := h
theorem au5 {p : Prop} (h : p := by (with_reducible repeat (first | refine blk_drewN ?_ _ | refine blk_drew ?_ | refine blk_alloc ?_ _)); exact BK136.out) : p := h
theorem au4 {p : Prop} (h : p := by repeat (first | (with_reducible first | exact HB.out | apply below_alloc | apply pw_below_drewN | apply below_drew1 | refine below_set ?_ GE138.out | refine below_set ?_ GE140.out | refine below_set ?_ GE169.out) | exact HB.out)) : p := h
theorem au3 {p : Prop} (h : p := by repeat (first | (with_reducible first | exact HB.out | apply below_alloc | apply pw_below_drewN | apply below_drew1 | refine below_set ?_ GE136.out | refine below_set ?_ GE138.out | refine below_set ?_ GE140.out) | exact HB.out)) : p := h
theorem au2 {p : Prop} (h : p := by (with_reducible repeat (first | refine blk_drewN ?_ _ | refine blk_drew ?_ | refine blk_alloc ?_ _)); exact BK138.out) : p := h
theorem au1 {p : Prop} (h : p := by (with_reducible repeat (first | refine blk_drewN ?_ _ | refine blk_drew ?_ | refine blk_alloc ?_ _)); exact BK140.out) : p := h
set_option maxHeartbeats 8000000 in
set_option maxRecDepth 100000 in
def dialtonelaw14_LifeRestores.part1 (k : Nat) (A0 : Option Addr) (c0 : Nat) (l0 : List (S23)) (a1 : Int) (a2 : Int) (a3 : Int) (r : Bool) (w : World) : { S : Prop // PLift S → ∀ (hr0 : Kd.C k23 w A0 l0.length l0) (hc0 : l0.length ≤ c0) (h : dialtonelaw14_LifeRestores.f k l0 a1 a2 a3 = some r), Calls Try.prog 10 #[.slice A0 l0.length c0, .int .i64 a1, .int .i64 a2, .int .i64 a3] w fun e w' => e = .returned (.bool r) ∧ Below w.heap.size w w' } := by
 apply Subtype.mk
 intro hSrest_ hr0 hc0 h
 have hu26 := Try.underlying26
 have hu54 := Try.underlying54
 have hu28 := Try.underlying28
 have HR0 := Aside0.mk hr0
 have HC0 := Aside0.mk hc0
 clear hr0 hc0
 have HB := Aside0.mk (Below.refl w.heap.size w)
 have H : ((dialtonelaw14_sane.f).bind fun t126 => (if t126 = true then ((dialtoneref14_Made.f k l0).bind fun t127 => ((life_Run.f t127).bind fun bt130 => (if bt130.2.2.2.2.2 = 0 then ((dialtonelaw14_pick.f a1 100).bind fun t137 => ((dialtonelaw14_pick.f a2 3000000).bind fun t139 => ((some (([] : List (S54)) : List (S54))).bind fun y141 => (if y141.length + t127.length < 5864062014805 then ((some (y141 ++ t127 : List (S54))).bind fun y144 => ((some (([(⟨5, mn (wrap64 (bt130.2.2.2.1 + t137)) 10000000, (-1)⟩ : S54), (⟨6, mn (wrap64 ((mn (wrap64 (bt130.2.2.2.1 + t137)) 10000000) + t139)) 10000000, (-1)⟩ : S54)] : List (S54)) : List (S54))).bind fun y147 => (if y144.length + y147.length < 5864062014805 then ((some (y144 ++ y147 : List (S54))).bind fun y150 => ((life_Run.f y150).bind fun bt153 => (if bt130.1 = 1 then (dialtonelaw14_LifeRestores.j0 k a3 t127 y150 bt153.2.2.2.2.1 bt153.2.2.2.2.2 false bt130.1 bt130.2.1 bt130.2.2.1 bt130.2.2.2.1 5 (mn (wrap64 (bt130.2.2.2.1 + t137)) 10000000) (-1) 6 (mn (wrap64 ((mn (wrap64 (bt130.2.2.2.1 + t137)) 10000000) + t139)) 10000000) (-1) bt153.1 bt153.2.1 bt153.2.2.1 bt153.2.2.2.1) else (dialtonelaw14_LifeRestores.j0 k a3 t127 y150 bt153.2.2.2.2.1 bt153.2.2.2.2.2 (bt130.1 != 2) bt130.1 bt130.2.1 bt130.2.2.1 bt130.2.2.2.1 5 (mn (wrap64 (bt130.2.2.2.1 + t137)) 10000000) (-1) 6 (mn (wrap64 ((mn (wrap64 (bt130.2.2.2.1 + t137)) 10000000) + t139)) 10000000) (-1) bt153.1 bt153.2.1 bt153.2.2.1 bt153.2.2.2.1)))) else (none)))) else (none))))) else (some false)))) else (some false))) = some r := h
 clear h
 replace H := Option.bind_eq_some_iff.mp H
 obtain ⟨t126, A50, H⟩ := H
 replace H : (if t126 = true then ((dialtoneref14_Made.f k l0).bind fun t127 => ((life_Run.f t127).bind fun bt130 => (if bt130.2.2.2.2.2 = 0 then ((dialtonelaw14_pick.f a1 100).bind fun t137 => ((dialtonelaw14_pick.f a2 3000000).bind fun t139 => ((some (([] : List (S54)) : List (S54))).bind fun y141 => (if y141.length + t127.length < 5864062014805 then ((some (y141 ++ t127 : List (S54))).bind fun y144 => ((some (([(⟨5, mn (wrap64 (bt130.2.2.2.1 + t137)) 10000000, (-1)⟩ : S54), (⟨6, mn (wrap64 ((mn (wrap64 (bt130.2.2.2.1 + t137)) 10000000) + t139)) 10000000, (-1)⟩ : S54)] : List (S54)) : List (S54))).bind fun y147 => (if y144.length + y147.length < 5864062014805 then ((some (y144 ++ y147 : List (S54))).bind fun y150 => ((life_Run.f y150).bind fun bt153 => (if bt130.1 = 1 then (dialtonelaw14_LifeRestores.j0 k a3 t127 y150 bt153.2.2.2.2.1 bt153.2.2.2.2.2 false bt130.1 bt130.2.1 bt130.2.2.1 bt130.2.2.2.1 5 (mn (wrap64 (bt130.2.2.2.1 + t137)) 10000000) (-1) 6 (mn (wrap64 ((mn (wrap64 (bt130.2.2.2.1 + t137)) 10000000) + t139)) 10000000) (-1) bt153.1 bt153.2.1 bt153.2.2.1 bt153.2.2.2.1) else (dialtonelaw14_LifeRestores.j0 k a3 t127 y150 bt153.2.2.2.2.1 bt153.2.2.2.2.2 (bt130.1 != 2) bt130.1 bt130.2.1 bt130.2.2.1 bt130.2.2.2.1 5 (mn (wrap64 (bt130.2.2.2.1 + t137)) 10000000) (-1) 6 (mn (wrap64 ((mn (wrap64 (bt130.2.2.2.1 + t137)) 10000000) + t139)) 10000000) (-1) bt153.1 bt153.2.1 bt153.2.2.1 bt153.2.2.2.1)))) else (none)))) else (none))))) else (some false)))) else (some false)) = some r := H
 have A5 := Aside0.mk A50
 clear A50
 by_cases c6 : t126 = true
 rotate_left
 · replace c6 := Bool.eq_false_iff.mpr c6
   subst c6
   have H1 : (some false) = some r := by rw [if_neg (show ¬ (false = true) by decide)] at H; exact H
   clear H
   have H := H1
   clear H1
   obtain rfl := Option.some.inj H
   go_enter Try.func10, Try.ntmps10
   go_wp2_with (first | ((with_reducible refine gate_callee (f := 13) rfl ?_); refine goesL_ (some 33) rfl rfl Try.func13 au28 rfl #[] rfl au12 ?_; (with_reducible refine (dialtonelaw14_sane.calls  false _ A5.out).mono ?_); rintro e w278 ⟨rfl, hb⟩; refine ⟨_, rfl, ?_⟩; have n0_ := Aside0.mk (below_step au10 hb); clear HB; have HB := n0_; clear n0_; (try clear hb); (try clear hb2); (try clear hk); (try clear hi)))
   go_ret
   exact ⟨by first | rfl | (simp [errW_none, errW_some] <;> rfl) | (simp [*, errW_none, errW_some] <;> rfl), by repeat (first | (with_reducible first | exact HB.out | apply below_alloc | apply pw_below_drewN | apply below_drew1) | exact HB.out)⟩
 subst c6
 have H1 : ((dialtoneref14_Made.f k l0).bind fun t127 => ((life_Run.f t127).bind fun bt130 => (if bt130.2.2.2.2.2 = 0 then ((dialtonelaw14_pick.f a1 100).bind fun t137 => ((dialtonelaw14_pick.f a2 3000000).bind fun t139 => ((some (([] : List (S54)) : List (S54))).bind fun y141 => (if y141.length + t127.length < 5864062014805 then ((some (y141 ++ t127 : List (S54))).bind fun y144 => ((some (([(⟨5, mn (wrap64 (bt130.2.2.2.1 + t137)) 10000000, (-1)⟩ : S54), (⟨6, mn (wrap64 ((mn (wrap64 (bt130.2.2.2.1 + t137)) 10000000) + t139)) 10000000, (-1)⟩ : S54)] : List (S54)) : List (S54))).bind fun y147 => (if y144.length + y147.length < 5864062014805 then ((some (y144 ++ y147 : List (S54))).bind fun y150 => ((life_Run.f y150).bind fun bt153 => (if bt130.1 = 1 then (dialtonelaw14_LifeRestores.j0 k a3 t127 y150 bt153.2.2.2.2.1 bt153.2.2.2.2.2 false bt130.1 bt130.2.1 bt130.2.2.1 bt130.2.2.2.1 5 (mn (wrap64 (bt130.2.2.2.1 + t137)) 10000000) (-1) 6 (mn (wrap64 ((mn (wrap64 (bt130.2.2.2.1 + t137)) 10000000) + t139)) 10000000) (-1) bt153.1 bt153.2.1 bt153.2.2.1 bt153.2.2.2.1) else (dialtonelaw14_LifeRestores.j0 k a3 t127 y150 bt153.2.2.2.2.1 bt153.2.2.2.2.2 (bt130.1 != 2) bt130.1 bt130.2.1 bt130.2.2.1 bt130.2.2.2.1 5 (mn (wrap64 (bt130.2.2.2.1 + t137)) 10000000) (-1) 6 (mn (wrap64 ((mn (wrap64 (bt130.2.2.2.1 + t137)) 10000000) + t139)) 10000000) (-1) bt153.1 bt153.2.1 bt153.2.2.1 bt153.2.2.2.1)))) else (none)))) else (none))))) else (some false)))) = some r := by rw [if_pos rfl] at H; exact H
 clear H
 have H := H1
 clear H1
 replace H := Option.bind_eq_some_iff.mp H
 obtain ⟨t127, A70, H⟩ := H
 replace H : ((life_Run.f t127).bind fun bt130 => (if bt130.2.2.2.2.2 = 0 then ((dialtonelaw14_pick.f a1 100).bind fun t137 => ((dialtonelaw14_pick.f a2 3000000).bind fun t139 => ((some (([] : List (S54)) : List (S54))).bind fun y141 => (if y141.length + t127.length < 5864062014805 then ((some (y141 ++ t127 : List (S54))).bind fun y144 => ((some (([(⟨5, mn (wrap64 (bt130.2.2.2.1 + t137)) 10000000, (-1)⟩ : S54), (⟨6, mn (wrap64 ((mn (wrap64 (bt130.2.2.2.1 + t137)) 10000000) + t139)) 10000000, (-1)⟩ : S54)] : List (S54)) : List (S54))).bind fun y147 => (if y144.length + y147.length < 5864062014805 then ((some (y144 ++ y147 : List (S54))).bind fun y150 => ((life_Run.f y150).bind fun bt153 => (if bt130.1 = 1 then (dialtonelaw14_LifeRestores.j0 k a3 t127 y150 bt153.2.2.2.2.1 bt153.2.2.2.2.2 false bt130.1 bt130.2.1 bt130.2.2.1 bt130.2.2.2.1 5 (mn (wrap64 (bt130.2.2.2.1 + t137)) 10000000) (-1) 6 (mn (wrap64 ((mn (wrap64 (bt130.2.2.2.1 + t137)) 10000000) + t139)) 10000000) (-1) bt153.1 bt153.2.1 bt153.2.2.1 bt153.2.2.2.1) else (dialtonelaw14_LifeRestores.j0 k a3 t127 y150 bt153.2.2.2.2.1 bt153.2.2.2.2.2 (bt130.1 != 2) bt130.1 bt130.2.1 bt130.2.2.1 bt130.2.2.2.1 5 (mn (wrap64 (bt130.2.2.2.1 + t137)) 10000000) (-1) 6 (mn (wrap64 ((mn (wrap64 (bt130.2.2.2.1 + t137)) 10000000) + t139)) 10000000) (-1) bt153.1 bt153.2.1 bt153.2.2.1 bt153.2.2.2.1)))) else (none)))) else (none))))) else (some false))) = some r := H
 have A7 := Aside0.mk A70
 clear A70
 replace H := Option.bind_eq_some_iff.mp H
 obtain ⟨⟨t130, t131, t132, t133, t134, t135⟩, A80, H⟩ := H
 replace H : (if t135 = 0 then ((dialtonelaw14_pick.f a1 100).bind fun t137 => ((dialtonelaw14_pick.f a2 3000000).bind fun t139 => ((some (([] : List (S54)) : List (S54))).bind fun y141 => (if y141.length + t127.length < 5864062014805 then ((some (y141 ++ t127 : List (S54))).bind fun y144 => ((some (([(⟨5, mn (wrap64 (t133 + t137)) 10000000, (-1)⟩ : S54), (⟨6, mn (wrap64 ((mn (wrap64 (t133 + t137)) 10000000) + t139)) 10000000, (-1)⟩ : S54)] : List (S54)) : List (S54))).bind fun y147 => (if y144.length + y147.length < 5864062014805 then ((some (y144 ++ y147 : List (S54))).bind fun y150 => ((life_Run.f y150).bind fun bt153 => (if t130 = 1 then (dialtonelaw14_LifeRestores.j0 k a3 t127 y150 bt153.2.2.2.2.1 bt153.2.2.2.2.2 false t130 t131 t132 t133 5 (mn (wrap64 (t133 + t137)) 10000000) (-1) 6 (mn (wrap64 ((mn (wrap64 (t133 + t137)) 10000000) + t139)) 10000000) (-1) bt153.1 bt153.2.1 bt153.2.2.1 bt153.2.2.2.1) else (dialtonelaw14_LifeRestores.j0 k a3 t127 y150 bt153.2.2.2.2.1 bt153.2.2.2.2.2 (t130 != 2) t130 t131 t132 t133 5 (mn (wrap64 (t133 + t137)) 10000000) (-1) 6 (mn (wrap64 ((mn (wrap64 (t133 + t137)) 10000000) + t139)) 10000000) (-1) bt153.1 bt153.2.1 bt153.2.2.1 bt153.2.2.2.1)))) else (none)))) else (none))))) else (some false)) = some r := H
 have A8 := Aside0.mk A80
 clear A80
 by_cases c9 : t135 = 0
 rotate_left
 · rw [if_neg c9] at H
   have c9b0 : (t135 == 0) = false := beq_eq_false_iff_ne.mpr c9
   have c9b1 : (t135 != 0) = true := bne_iff_ne.mpr c9
   obtain rfl := Option.some.inj H
   go_enter Try.func10, Try.ntmps10
   go_wp2_with (first | ((with_reducible refine gate_callee (f := 13) rfl ?_); refine goesL_ (some 33) rfl rfl Try.func13 au28 rfl #[] rfl au12 ?_; (with_reducible refine (dialtonelaw14_sane.calls  true _ A5.out).mono ?_); rintro e w272 ⟨rfl, hb⟩; refine ⟨_, rfl, ?_⟩; have n0_ := Aside0.mk (below_step au10 hb); clear HB; have HB := n0_; clear n0_; (try clear hb); (try clear hb2); (try clear hk); (try clear hi)) | ((with_reducible refine gate_callee (f := 14) rfl ?_); refine goesL_ (some 36) rfl rfl Try.func14 au28 rfl #[.slice A0 l0.length c0] rfl au12 ?_; (with_reducible refine (dialtoneref14_Made.calls k _ _ l0 t127 _ ?side1 ?side2 A7.out).mono ?_); (case side1 => repeat (first | exact (Kd.C_below HR0.out HB.out) | (with_reducible refine Kd.C_alloc ?_ _) | (with_reducible refine Kd.C_drewN ?_ _) | (with_reducible refine Kd.C_drew ?_))); (case side2 => exact HC0.out); rintro e w273 ⟨v128, rfl, ho0, hb⟩; refine ⟨_, rfl, ?_⟩; have n0_ := Aside0.mk (Kd.R_lower ho0 (below_size au10)); have n1_ := Aside0.mk (below_step au10 hb); clear HB; have HO129 := n0_; have HB := n1_; clear n0_ n1_; (try clear hb); (try clear hb2); (try clear hk); (try clear hi); (try clear ho0); obtain ⟨Ao274, co274, eo274⟩ := Kd.R_slice HO129.out; subst eo274) | ((with_reducible refine gate_callee (f := 17) rfl ?_); refine goesL_ (some 39) rfl rfl Try.func17 au28 rfl #[.slice Ao274 t127.length co274] rfl au12 ?_; (with_reducible refine (life_Run.calls _ _ t127 t130 t131 t132 t133 t134 t135 _ ?side1 ?side2 A8.out).mono ?_); (case side1 => repeat (first | exact (Kd.R_reads' HO129.out).2.2 | (with_reducible refine Kd.C_alloc ?_ _) | (with_reducible refine Kd.C_drewN ?_ _) | (with_reducible refine Kd.C_drew ?_))); (case side2 => exact (Kd.R_reads' HO129.out).2.1); rintro e w275 ⟨rfl, hb⟩; refine ⟨_, rfl, ?_⟩; have n0_ := Aside0.mk (Kd.R_below au11 hb); have n1_ := Aside0.mk (below_step au10 hb); clear HO129; clear HB; have HO129 := n0_; have HB := n1_; clear n0_ n1_; (try clear hb); (try clear hb2); (try clear hk); (try clear hi)) | ((with_reducible refine gate_dst (N := 10) rfl ?_); (try (refine gate_guard (by rfl) ?_; dsimp only)); refine box_event ?hg (N := 10) ?hd (cs := #[.int .i64 0, .int .i64 0, .int .i64 0, .int .i64 0]) (t := 26) ?hr ?_; (case hd => rfl); (case hg => rfl); (case hr => first | (go_simp; done) | (go_simp; rfl)); intro gb136 hg w276 hbox hb; have n0_ := Aside0.mk (Kd.R_below au11 hb); have n1_ := Aside0.mk (below_step au10 hb); have n2_ := Aside0.mk (hbox); have n3_ := Aside0.mk ((by rw [hg]; exact (below_size au10) : w.heap.size ≤ gb136)); have n4_ := Aside0.mk ((by rw [hg]; exact (below_size au10) : w.heap.size ≤ gb136)); clear HO129; clear HB; have HO129 := n0_; have HB := n1_; have BK136 := n2_; have GW136 := n3_; have GE136 := n4_; clear n0_ n1_ n2_ n3_ n4_; clear hb hbox hg; have hcz277_0 : w276.cell? ⟨gb136, 0, none⟩ = some (.int .i64 0) := (blk_cell BK136.out 0).trans rfl; have hcz277_1 : w276.cell? ⟨gb136, 1, none⟩ = some (.int .i64 0) := (blk_cell BK136.out 1).trans rfl; have hcz277_2 : w276.cell? ⟨gb136, 2, none⟩ = some (.int .i64 0) := (blk_cell BK136.out 2).trans rfl; have hcz277_3 : w276.cell? ⟨gb136, 3, none⟩ = some (.int .i64 0) := (blk_cell BK136.out 3).trans rfl; have hfz277_0 := blk_frozen BK136.out 0; have hfz277_1 := blk_frozen BK136.out 1; have hfz277_2 := blk_frozen BK136.out 2; have hfz277_3 := blk_frozen BK136.out 3))
   go_ret
   exact ⟨by first | rfl | (simp [errW_none, errW_some] <;> rfl) | (simp [*, errW_none, errW_some] <;> rfl), by repeat (first | (with_reducible first | exact HB.out | apply below_alloc | apply pw_below_drewN | apply below_drew1 | refine below_set ?_ GE136.out) | exact HB.out)⟩
 rw [if_pos c9] at H
 have c9b0 : (t135 == 0) = true := beq_iff_eq.mpr c9
 have c9b1 : (t135 != 0) = false := bne_eq_false_iff_eq.mpr c9
 clear c9
 replace H := Option.bind_eq_some_iff.mp H
 obtain ⟨t137, A100, H⟩ := H
 replace H : ((dialtonelaw14_pick.f a2 3000000).bind fun t139 => ((some (([] : List (S54)) : List (S54))).bind fun y141 => (if y141.length + t127.length < 5864062014805 then ((some (y141 ++ t127 : List (S54))).bind fun y144 => ((some (([(⟨5, mn (wrap64 (t133 + t137)) 10000000, (-1)⟩ : S54), (⟨6, mn (wrap64 ((mn (wrap64 (t133 + t137)) 10000000) + t139)) 10000000, (-1)⟩ : S54)] : List (S54)) : List (S54))).bind fun y147 => (if y144.length + y147.length < 5864062014805 then ((some (y144 ++ y147 : List (S54))).bind fun y150 => ((life_Run.f y150).bind fun bt153 => (if t130 = 1 then (dialtonelaw14_LifeRestores.j0 k a3 t127 y150 bt153.2.2.2.2.1 bt153.2.2.2.2.2 false t130 t131 t132 t133 5 (mn (wrap64 (t133 + t137)) 10000000) (-1) 6 (mn (wrap64 ((mn (wrap64 (t133 + t137)) 10000000) + t139)) 10000000) (-1) bt153.1 bt153.2.1 bt153.2.2.1 bt153.2.2.2.1) else (dialtonelaw14_LifeRestores.j0 k a3 t127 y150 bt153.2.2.2.2.1 bt153.2.2.2.2.2 (t130 != 2) t130 t131 t132 t133 5 (mn (wrap64 (t133 + t137)) 10000000) (-1) 6 (mn (wrap64 ((mn (wrap64 (t133 + t137)) 10000000) + t139)) 10000000) (-1) bt153.1 bt153.2.1 bt153.2.2.1 bt153.2.2.2.1)))) else (none)))) else (none)))) = some r := H
 have A10 := Aside0.mk A100
 clear A100
 obtain ⟨ji11, hji11⟩ : ∃ j_ : Int, (mn (wrap64 (t133 + t137)) 10000000) = j_ := ⟨_, rfl⟩
 replace H : ((dialtonelaw14_pick.f a2 3000000).bind fun t139 => ((some (([] : List (S54)) : List (S54))).bind fun y141 => (if y141.length + t127.length < 5864062014805 then ((some (y141 ++ t127 : List (S54))).bind fun y144 => ((some (([(⟨5, ji11, (-1)⟩ : S54), (⟨6, mn (wrap64 ((ji11) + t139)) 10000000, (-1)⟩ : S54)] : List (S54)) : List (S54))).bind fun y147 => (if y144.length + y147.length < 5864062014805 then ((some (y144 ++ y147 : List (S54))).bind fun y150 => ((life_Run.f y150).bind fun bt153 => (if t130 = 1 then (dialtonelaw14_LifeRestores.j0 k a3 t127 y150 bt153.2.2.2.2.1 bt153.2.2.2.2.2 false t130 t131 t132 t133 5 ji11 (-1) 6 (mn (wrap64 ((ji11) + t139)) 10000000) (-1) bt153.1 bt153.2.1 bt153.2.2.1 bt153.2.2.2.1) else (dialtonelaw14_LifeRestores.j0 k a3 t127 y150 bt153.2.2.2.2.1 bt153.2.2.2.2.2 (t130 != 2) t130 t131 t132 t133 5 ji11 (-1) 6 (mn (wrap64 ((ji11) + t139)) 10000000) (-1) bt153.1 bt153.2.1 bt153.2.2.1 bt153.2.2.2.1)))) else (none)))) else (none)))) = some r := by first | (rw [hji11] at H; exact H) | (simp only [hji11] at H ⊢; exact H)
 (try rw [hji11] at A5)
 (try rw [hji11] at A7)
 (try rw [hji11] at A8)
 (try rw [hji11] at A10)
 (try (have hji11h : ji11 ≤ 10000000 := by (rw [← hji11]; unfold mn; (repeat' split) <;> omega)))
 (try (have hji11g : ji11 ≤ 64 := by omega))
 have hji11_ : (if 10000000 < (wrap64 (t133 + t137)) then 10000000 else (wrap64 (t133 + t137))) = ji11 := hji11
 replace H := Option.bind_eq_some_iff.mp H
 obtain ⟨t139, A120, H⟩ := H
 replace H : ((some (([] : List (S54)) : List (S54))).bind fun y141 => (if y141.length + t127.length < 5864062014805 then ((some (y141 ++ t127 : List (S54))).bind fun y144 => ((some (([(⟨5, ji11, (-1)⟩ : S54), (⟨6, mn (wrap64 ((ji11) + t139)) 10000000, (-1)⟩ : S54)] : List (S54)) : List (S54))).bind fun y147 => (if y144.length + y147.length < 5864062014805 then ((some (y144 ++ y147 : List (S54))).bind fun y150 => ((life_Run.f y150).bind fun bt153 => (if t130 = 1 then (dialtonelaw14_LifeRestores.j0 k a3 t127 y150 bt153.2.2.2.2.1 bt153.2.2.2.2.2 false t130 t131 t132 t133 5 ji11 (-1) 6 (mn (wrap64 ((ji11) + t139)) 10000000) (-1) bt153.1 bt153.2.1 bt153.2.2.1 bt153.2.2.2.1) else (dialtonelaw14_LifeRestores.j0 k a3 t127 y150 bt153.2.2.2.2.1 bt153.2.2.2.2.2 (t130 != 2) t130 t131 t132 t133 5 ji11 (-1) 6 (mn (wrap64 ((ji11) + t139)) 10000000) (-1) bt153.1 bt153.2.1 bt153.2.2.1 bt153.2.2.2.1)))) else (none)))) else (none))) = some r := H
 have A12 := Aside0.mk A120
 clear A120
 obtain ⟨ji13, hji13⟩ : ∃ j_ : Int, (mn (wrap64 ((ji11) + t139)) 10000000) = j_ := ⟨_, rfl⟩
 replace H : ((some (([] : List (S54)) : List (S54))).bind fun y141 => (if y141.length + t127.length < 5864062014805 then ((some (y141 ++ t127 : List (S54))).bind fun y144 => ((some (([(⟨5, ji11, (-1)⟩ : S54), (⟨6, ji13, (-1)⟩ : S54)] : List (S54)) : List (S54))).bind fun y147 => (if y144.length + y147.length < 5864062014805 then ((some (y144 ++ y147 : List (S54))).bind fun y150 => ((life_Run.f y150).bind fun bt153 => (if t130 = 1 then (dialtonelaw14_LifeRestores.j0 k a3 t127 y150 bt153.2.2.2.2.1 bt153.2.2.2.2.2 false t130 t131 t132 t133 5 ji11 (-1) 6 ji13 (-1) bt153.1 bt153.2.1 bt153.2.2.1 bt153.2.2.2.1) else (dialtonelaw14_LifeRestores.j0 k a3 t127 y150 bt153.2.2.2.2.1 bt153.2.2.2.2.2 (t130 != 2) t130 t131 t132 t133 5 ji11 (-1) 6 ji13 (-1) bt153.1 bt153.2.1 bt153.2.2.1 bt153.2.2.2.1)))) else (none)))) else (none))) = some r := by first | (rw [hji13] at H; exact H) | (simp only [hji13] at H ⊢; exact H)
 (try rw [hji13] at A5)
 (try rw [hji13] at A7)
 (try rw [hji13] at A8)
 (try rw [hji13] at A10)
 (try rw [hji13] at A12)
 have hji13_ : (if 10000000 < (wrap64 ((ji11) + t139)) then 10000000 else (wrap64 ((ji11) + t139))) = ji13 := hji13
 obtain ⟨y141, hy141⟩ : ∃ y_ : List (S54), y_ = (([] : List (S54))) := ⟨_, rfl⟩
 replace H : (if y141.length + t127.length < 5864062014805 then ((some (y141 ++ t127 : List (S54))).bind fun y144 => ((some (([(⟨5, ji11, (-1)⟩ : S54), (⟨6, ji13, (-1)⟩ : S54)] : List (S54)) : List (S54))).bind fun y147 => (if y144.length + y147.length < 5864062014805 then ((some (y144 ++ y147 : List (S54))).bind fun y150 => ((life_Run.f y150).bind fun bt153 => (if t130 = 1 then (dialtonelaw14_LifeRestores.j0 k a3 t127 y150 bt153.2.2.2.2.1 bt153.2.2.2.2.2 false t130 t131 t132 t133 5 ji11 (-1) 6 ji13 (-1) bt153.1 bt153.2.1 bt153.2.2.1 bt153.2.2.2.1) else (dialtonelaw14_LifeRestores.j0 k a3 t127 y150 bt153.2.2.2.2.1 bt153.2.2.2.2.2 (t130 != 2) t130 t131 t132 t133 5 ji11 (-1) 6 ji13 (-1) bt153.1 bt153.2.1 bt153.2.2.1 bt153.2.2.2.1)))) else (none)))) else (none)) = some r := by first | (rw [hy141]; with_reducible exact H) | (have H2_ := (Option.bind_some _ _).symm.trans H; rw [hy141]; with_reducible exact H2_) | (have H2_ := (Option.bind_some _ _).symm.trans H; with_reducible exact H2_) | with_reducible exact H | (rw [hy141]; exact H) | exact H
 have Ny141 := Aside0.mk hy141
 clear hy141
 by_cases c14 : y141.length + t127.length < 5864062014805
 rotate_left
 · rw [if_neg c14] at H
   exact absurd H (by simp)
 rw [if_pos c14] at H
 have LMc14 := Aside0.mk c14
 clear c14
 obtain ⟨y144, hy144⟩ : ∃ y_ : List (S54), y_ = (y141 ++ t127) := ⟨_, rfl⟩
 replace H : ((some (([(⟨5, ji11, (-1)⟩ : S54), (⟨6, ji13, (-1)⟩ : S54)] : List (S54)) : List (S54))).bind fun y147 => (if y144.length + y147.length < 5864062014805 then ((some (y144 ++ y147 : List (S54))).bind fun y150 => ((life_Run.f y150).bind fun bt153 => (if t130 = 1 then (dialtonelaw14_LifeRestores.j0 k a3 t127 y150 bt153.2.2.2.2.1 bt153.2.2.2.2.2 false t130 t131 t132 t133 5 ji11 (-1) 6 ji13 (-1) bt153.1 bt153.2.1 bt153.2.2.1 bt153.2.2.2.1) else (dialtonelaw14_LifeRestores.j0 k a3 t127 y150 bt153.2.2.2.2.1 bt153.2.2.2.2.2 (t130 != 2) t130 t131 t132 t133 5 ji11 (-1) 6 ji13 (-1) bt153.1 bt153.2.1 bt153.2.2.1 bt153.2.2.2.1)))) else (none))) = some r := by first | (rw [hy144]; with_reducible exact H) | (have H2_ := (Option.bind_some _ _).symm.trans H; rw [hy144]; with_reducible exact H2_) | (have H2_ := (Option.bind_some _ _).symm.trans H; with_reducible exact H2_) | with_reducible exact H | (rw [hy144]; exact H) | exact H
 have Ny144 := Aside0.mk hy144
 clear hy144
 obtain ⟨y147, hy147⟩ : ∃ y_ : List (S54), y_ = (([(⟨5, ji11, (-1)⟩ : S54), (⟨6, ji13, (-1)⟩ : S54)] : List (S54))) := ⟨_, rfl⟩
 replace H : (if y144.length + y147.length < 5864062014805 then ((some (y144 ++ y147 : List (S54))).bind fun y150 => ((life_Run.f y150).bind fun bt153 => (if t130 = 1 then (dialtonelaw14_LifeRestores.j0 k a3 t127 y150 bt153.2.2.2.2.1 bt153.2.2.2.2.2 false t130 t131 t132 t133 5 ji11 (-1) 6 ji13 (-1) bt153.1 bt153.2.1 bt153.2.2.1 bt153.2.2.2.1) else (dialtonelaw14_LifeRestores.j0 k a3 t127 y150 bt153.2.2.2.2.1 bt153.2.2.2.2.2 (t130 != 2) t130 t131 t132 t133 5 ji11 (-1) 6 ji13 (-1) bt153.1 bt153.2.1 bt153.2.2.1 bt153.2.2.2.1)))) else (none)) = some r := by first | (rw [hy147]; with_reducible exact H) | (have H2_ := (Option.bind_some _ _).symm.trans H; rw [hy147]; with_reducible exact H2_) | (have H2_ := (Option.bind_some _ _).symm.trans H; with_reducible exact H2_) | with_reducible exact H | (rw [hy147]; exact H) | exact H
 have Ny147 := Aside0.mk hy147
 clear hy147
 by_cases c15 : y144.length + y147.length < 5864062014805
 rotate_left
 · rw [if_neg c15] at H
   exact absurd H (by simp)
 rw [if_pos c15] at H
 have LMc15 := Aside0.mk c15
 clear c15
 obtain ⟨y150, hy150⟩ : ∃ y_ : List (S54), y_ = (y144 ++ y147) := ⟨_, rfl⟩
 replace H : ((life_Run.f y150).bind fun bt153 => (if t130 = 1 then (dialtonelaw14_LifeRestores.j0 k a3 t127 y150 bt153.2.2.2.2.1 bt153.2.2.2.2.2 false t130 t131 t132 t133 5 ji11 (-1) 6 ji13 (-1) bt153.1 bt153.2.1 bt153.2.2.1 bt153.2.2.2.1) else (dialtonelaw14_LifeRestores.j0 k a3 t127 y150 bt153.2.2.2.2.1 bt153.2.2.2.2.2 (t130 != 2) t130 t131 t132 t133 5 ji11 (-1) 6 ji13 (-1) bt153.1 bt153.2.1 bt153.2.2.1 bt153.2.2.2.1))) = some r := by first | (rw [hy150]; with_reducible exact H) | (have H2_ := (Option.bind_some _ _).symm.trans H; rw [hy150]; with_reducible exact H2_) | (have H2_ := (Option.bind_some _ _).symm.trans H; with_reducible exact H2_) | with_reducible exact H | (rw [hy150]; exact H) | exact H
 have Ny150 := Aside0.mk hy150
 clear hy150
 replace H := Option.bind_eq_some_iff.mp H
 obtain ⟨⟨t153, t154, t155, t156, t157, t158⟩, A160, H⟩ := H
 replace H : (if t130 = 1 then (dialtonelaw14_LifeRestores.j0 k a3 t127 y150 t157 t158 false t130 t131 t132 t133 5 ji11 (-1) 6 ji13 (-1) t153 t154 t155 t156) else (dialtonelaw14_LifeRestores.j0 k a3 t127 y150 t157 t158 (t130 != 2) t130 t131 t132 t133 5 ji11 (-1) 6 ji13 (-1) t153 t154 t155 t156)) = some r := H
 have A16 := Aside0.mk A160
 clear A160
 have HC17 := Aside0.mk H
 clear H
 go_enter Try.func10, Try.ntmps10
 try go_wp2_with (first | ((with_reducible refine gate_callee (f := 13) rfl ?_); refine goesL_ (some 33) rfl rfl Try.func13 au28 rfl #[] rfl au12 ?_; (with_reducible refine (dialtonelaw14_sane.calls  true _ A5.out).mono ?_); rintro e w18 ⟨rfl, hb⟩; refine ⟨_, rfl, ?_⟩; have n0_ := Aside0.mk (below_step au10 hb); clear HB; have HB := n0_; clear n0_; (try clear hb); (try clear hb2); (try clear hk); (try clear hi)) | ((with_reducible refine gate_callee (f := 14) rfl ?_); refine goesL_ (some 36) rfl rfl Try.func14 au28 rfl #[.slice A0 l0.length c0] rfl au12 ?_; (with_reducible refine (dialtoneref14_Made.calls k _ _ l0 t127 _ ?side1 ?side2 A7.out).mono ?_); (case side1 => repeat (first | exact (Kd.C_below HR0.out HB.out) | (with_reducible refine Kd.C_alloc ?_ _) | (with_reducible refine Kd.C_drewN ?_ _) | (with_reducible refine Kd.C_drew ?_))); (case side2 => exact HC0.out); rintro e w19 ⟨v128, rfl, ho0, hb⟩; refine ⟨_, rfl, ?_⟩; have n0_ := Aside0.mk (Kd.R_lower ho0 (below_size au10)); have n1_ := Aside0.mk (below_step au10 hb); clear HB; have HO129 := n0_; have HB := n1_; clear n0_ n1_; (try clear hb); (try clear hb2); (try clear hk); (try clear hi); (try clear ho0); obtain ⟨Ao20, co20, eo20⟩ := Kd.R_slice HO129.out; subst eo20) | ((with_reducible refine gate_callee (f := 17) rfl ?_); refine goesL_ (some 39) rfl rfl Try.func17 au28 rfl #[.slice Ao20 t127.length co20] rfl au12 ?_; (with_reducible refine (life_Run.calls _ _ t127 t130 t131 t132 t133 t134 t135 _ ?side1 ?side2 A8.out).mono ?_); (case side1 => repeat (first | exact (Kd.R_reads' HO129.out).2.2 | (with_reducible refine Kd.C_alloc ?_ _) | (with_reducible refine Kd.C_drewN ?_ _) | (with_reducible refine Kd.C_drew ?_))); (case side2 => exact (Kd.R_reads' HO129.out).2.1); rintro e w21 ⟨rfl, hb⟩; refine ⟨_, rfl, ?_⟩; have n0_ := Aside0.mk (Kd.R_below au11 hb); have n1_ := Aside0.mk (below_step au10 hb); clear HO129; clear HB; have HO129 := n0_; have HB := n1_; clear n0_ n1_; (try clear hb); (try clear hb2); (try clear hk); (try clear hi)) | ((with_reducible refine gate_dst (N := 10) rfl ?_); (try (refine gate_guard (by rfl) ?_; dsimp only)); refine box_event ?hg (N := 10) ?hd (cs := #[.int .i64 0, .int .i64 0, .int .i64 0, .int .i64 0]) (t := 26) ?hr ?_; (case hd => rfl); (case hg => rfl); (case hr => first | (go_simp; done) | (go_simp; rfl)); intro gb136 hg w22 hbox hb; have n0_ := Aside0.mk (Kd.R_below au11 hb); have n1_ := Aside0.mk (below_step au10 hb); have n2_ := Aside0.mk (hbox); have n3_ := Aside0.mk ((by rw [hg]; exact (below_size au10) : w.heap.size ≤ gb136)); have n4_ := Aside0.mk ((by rw [hg]; exact (below_size au10) : w.heap.size ≤ gb136)); clear HO129; clear HB; have HO129 := n0_; have HB := n1_; have BK136 := n2_; have GW136 := n3_; have GE136 := n4_; clear n0_ n1_ n2_ n3_ n4_; clear hb hbox hg; have hcz23_0 : w22.cell? ⟨gb136, 0, none⟩ = some (.int .i64 0) := (blk_cell BK136.out 0).trans rfl; have hcz23_1 : w22.cell? ⟨gb136, 1, none⟩ = some (.int .i64 0) := (blk_cell BK136.out 1).trans rfl; have hcz23_2 : w22.cell? ⟨gb136, 2, none⟩ = some (.int .i64 0) := (blk_cell BK136.out 2).trans rfl; have hcz23_3 : w22.cell? ⟨gb136, 3, none⟩ = some (.int .i64 0) := (blk_cell BK136.out 3).trans rfl; have hfz23_0 := blk_frozen BK136.out 0; have hfz23_1 := blk_frozen BK136.out 1; have hfz23_2 := blk_frozen BK136.out 2; have hfz23_3 := blk_frozen BK136.out 3))
 have n0_ : Aside0 (Kd.R k54 54 ((((w22.setCell ⟨gb136, 0, none⟩ (.int .i64 t130)).setCell ⟨gb136, 1, none⟩ (.int .i64 t131)).setCell ⟨gb136, 2, none⟩ (.int .i64 t132)).setCell ⟨gb136, 3, none⟩ (.int .i64 t133)) w.heap.size (fun _ => True) (.slice Ao20 t127.length co20) t127) := ⟨by (with_reducible repeat (first | apply Kd.R_alloc | apply Kd.R_drewN | apply Kd.R_drew)); exact Kd.R_mono (Kd.R_far (p := ⟨gb136, 3, none⟩) (Kd.R_far (p := ⟨gb136, 2, none⟩) (Kd.R_far (p := ⟨gb136, 1, none⟩) (Kd.R_far (p := ⟨gb136, 0, none⟩) (Kd.R_types HO129.out BK136.out (by decide)) (fun _ hk => hk.2) (.int .i64 t130)) (fun _ hk => hk.2) (.int .i64 t131)) (fun _ hk => hk.2) (.int .i64 t132)) (fun _ hk => hk.2) (.int .i64 t133)) (fun _ hk => trivial)⟩
 have n1_ : Aside0 (((((w22.setCell ⟨gb136, 0, none⟩ (.int .i64 t130)).setCell ⟨gb136, 1, none⟩ (.int .i64 t131)).setCell ⟨gb136, 2, none⟩ (.int .i64 t132)).setCell ⟨gb136, 3, none⟩ (.int .i64 t133)).heap[gb136]? = some (.cells #[.int .i64 t130, .int .i64 t131, .int .i64 t132, .int .i64 t133] 26 (0, 0))) := ⟨by (with_reducible repeat (first | refine blk_drewN ?_ _ | refine blk_drew ?_ | refine blk_alloc ?_ _)); refine blk_put (cs := #[.int .i64 t130, .int .i64 t131, .int .i64 t132, .int .i64 0]) ?_ 3 _ rfl; (with_reducible repeat (first | refine blk_drewN ?_ _ | refine blk_drew ?_ | refine blk_alloc ?_ _)); refine blk_put (cs := #[.int .i64 t130, .int .i64 t131, .int .i64 0, .int .i64 0]) ?_ 2 _ rfl; (with_reducible repeat (first | refine blk_drewN ?_ _ | refine blk_drew ?_ | refine blk_alloc ?_ _)); refine blk_put (cs := #[.int .i64 t130, .int .i64 0, .int .i64 0, .int .i64 0]) ?_ 1 _ rfl; (with_reducible repeat (first | refine blk_drewN ?_ _ | refine blk_drew ?_ | refine blk_alloc ?_ _)); refine blk_put (cs := #[.int .i64 0, .int .i64 0, .int .i64 0, .int .i64 0]) ?_ 0 _ rfl; (with_reducible repeat (first | refine blk_drewN ?_ _ | refine blk_drew ?_ | refine blk_alloc ?_ _)); exact BK136.out⟩
 have n2_ : Aside0 (Below w.heap.size w ((((w22.setCell ⟨gb136, 0, none⟩ (.int .i64 t130)).setCell ⟨gb136, 1, none⟩ (.int .i64 t131)).setCell ⟨gb136, 2, none⟩ (.int .i64 t132)).setCell ⟨gb136, 3, none⟩ (.int .i64 t133))) := ⟨by repeat (first | (with_reducible first | exact HB.out | apply below_alloc | apply pw_below_drewN | apply below_drew1 | refine below_set ?_ GE136.out) | exact HB.out)⟩
 (try clear HO129)
 (try clear BK136)
 (try clear HB)
 generalize ((((w22.setCell ⟨gb136, 0, none⟩ (.int .i64 t130)).setCell ⟨gb136, 1, none⟩ (.int .i64 t131)).setCell ⟨gb136, 2, none⟩ (.int .i64 t132)).setCell ⟨gb136, 3, none⟩ (.int .i64 t133)) = w24 at n0_ n1_ n2_ ⊢
 have HO129 := n0_
 have BK136 := n1_
 have HB := n2_
 clear n0_ n1_ n2_
 have n0_ := Aside0.mk (Kd.R_drew HO129.out)
 have n1_ := Aside0.mk (blk_drew BK136.out)
 have n2_ := Aside0.mk (below_drew1 HB.out)
 clear HO129
 clear BK136
 clear HB
 have HO129 := n0_
 have BK136 := n1_
 have HB := n2_
 clear n0_ n1_ n2_
 refine start_ (n := 9) (S := fun w' => w'.cell? ⟨gb136, 0, none⟩ = some (.int .i64 t130) ∧ w'.cell? ⟨gb136, 1, none⟩ = some (.int .i64 t131) ∧ w'.cell? ⟨gb136, 2, none⟩ = some (.int .i64 t132) ∧ w'.cell? ⟨gb136, 3, none⟩ = some (.int .i64 t133)) (ds := []) #[false, false, false, false, false, false, false, false, false] au28 rfl rfl ⟨(blk_cell BK136.out 0).trans rfl, (blk_cell BK136.out 1).trans rfl, (blk_cell BK136.out 2).trans rfl, (blk_cell BK136.out 3).trans rfl⟩ (fun hHeld => ?_); refine with_tabW dialtonelaw14_LifeRestores.tab7 dialtonelaw14_LifeRestores.bits7 (fun HT_ HW_ => ?_)
 generalize w24.drew = w25 at HO129 BK136 HB hHeld ⊢
 refine pure_ (i := 0) (N := some 45) (v := ?_) (a' := ?_) #[true, false, false, false, false, false, false, false, false] rfl rfl (any_of HT_.out au28) (fun _ _ _ h => h) (Or.inl ⟨by rfl, ?_⟩) ?_ ?_
 rotate_left
 · intro w'
   go_simp
   with_reducible rfl
 rotate_left
 · simp only [Act.put, List.setIfInBounds_toArray, List.set_cons_zero, List.set_cons_succ, i64_w, i32_w]
   rfl
 refine pure_ (i := 2) (N := some 47) (v := ?_) (a' := ?_) #[true, false, true, false, false, false, false, false, false] rfl rfl (any_of HT_.out au28) (fun _ _ _ h => h) (Or.inl ⟨by rfl, ?_⟩) ?_ ?_
 rotate_left
 · intro w'
   go_simp
   with_reducible rfl
 rotate_left
 · simp only [Act.put, List.setIfInBounds_toArray, List.set_cons_zero, List.set_cons_succ, i64_w, i32_w]
   rfl
 refine take_ (i := 1) (N := some 46) (v := ?_) (a' := ?_) #[true, true, true, false, false, false, false, false, false] rfl rfl (take_ofW HT_.out HW_.out au28) (fun _ _ _ h => h) (Or.inl ⟨by rfl, ?_⟩) hHeld ?_ ?_
 rotate_left
 · rintro w' ⟨s0, s1, s2, s3⟩
   go_simp
   with_reducible rfl
 rotate_left
 · simp only [Act.put, List.setIfInBounds_toArray, List.set_cons_zero, List.set_cons_succ, i64_w, i32_w]
   rfl
 refine join_ (σ := Nat) 1 #[true, true, true, true, true, true, true, true, false] (fun s_ => [(48, .int .i64 t137), (13, .pointer (some ⟨s_, 0, none⟩)), (49, .int .i64 (wrap64 (t133 + t137))), (50, .int .i64 ji11), (51, .agg #[.int .i64 5, .int .i64 ji11, .int .i64 (-1)])]) (fun s_ w' => (w'.cell? ⟨gb136, 0, none⟩ = some (.int .i64 t130) ∧ w'.cell? ⟨gb136, 1, none⟩ = some (.int .i64 t131) ∧ w'.cell? ⟨gb136, 2, none⟩ = some (.int .i64 t132) ∧ w'.cell? ⟨gb136, 3, none⟩ = some (.int .i64 t133)) ∧ (Kd.R k54 54 w' w.heap.size (fun k_ => k_ ≠ s_) (.slice Ao20 t127.length co20) t127) ∧ (w'.heap[gb136]? = some (.cells #[.int .i64 t130, .int .i64 t131, .int .i64 t132, .int .i64 t133] 26 (0, 0))) ∧ (w'.heap[s_]? = some (.cells #[.int .i64 0, .int .i64 0, .int .i64 0] 54 (0, 0))) ∧ (w.heap.size ≤ s_) ∧ (w.heap.size ≤ s_) ∧ (gb136 ≠ s_) ∧ (s_ ≠ gb136) ∧ (Below w.heap.size w w')) ?_ ?_
 rotate_left
 · intro hCont
   refine two_ (i := 3) (j := 7) (Ni := some 48) (Nj := some 13) #[true, true, true, true, false, false, false, false, false] #[true, true, true, false, false, false, false, true, false] rfl rfl rfl rfl (two_of HT_.out au28) (by decide) (by decide) (fun K hK => ?_) (fun K hK => ?_)
   · skip
     refine goes_ Try.func29 au28 rfl #[.int .i64 a1, .int .i64 100] (by rfl) rfl rfl au12 ?_
     with_reducible refine (dialtonelaw14_pick.calls a1 100 t137 _ A10.out).mono ?_
     rintro e w' ⟨rfl, ⟨nd, rfl⟩⟩
     refine ⟨_, rfl, ?_⟩
     refine hK.out _ _ ⟨(blk_cell BK136.out 0).trans rfl, (blk_cell BK136.out 1).trans rfl, (blk_cell BK136.out 2).trans rfl, (blk_cell BK136.out 3).trans rfl⟩ (fun hHeld => ?_)
     clear hK K
     refine norm_ (a' := ?_) ?_ ?_
     rotate_left
     · show Act.put _ (some 48) _ = _
       simp only [Act.put, List.setIfInBounds_toArray, List.set_cons_zero, List.set_cons_succ, i64_w, i32_w]
       rfl
     refine pure_ (i := 4) (N := some 49) (v := ?_) (a' := ?_) #[true, true, true, true, true, false, false, false, false] rfl rfl (any_of HT_.out au28) (fun _ _ _ h => h) (Or.inl ⟨by rfl, ?_⟩) ?_ ?_
     rotate_left
     · intro w'
       go_simp
       with_reducible rfl
     rotate_left
     · simp only [Act.put, List.setIfInBounds_toArray, List.set_cons_zero, List.set_cons_succ, i64_w, i32_w]
       rfl
     refine pure_ (i := 5) (N := some 50) (v := ?_) (a' := ?_) #[true, true, true, true, true, true, false, false, false] rfl rfl (any_of HT_.out au28) (fun _ _ _ h => h) (Or.inl ⟨by rfl, ?_⟩) ?_ ?_
     rotate_left
     · intro w'
       go_simp
       with_reducible rfl
     rotate_left
     · simp only [Act.put, List.setIfInBounds_toArray, List.set_cons_zero, List.set_cons_succ, i64_w, i32_w]
       rfl
     refine pure_ (i := 6) (N := some 51) (v := ?_) (a' := ?_) #[true, true, true, true, true, true, true, false, false] rfl rfl (any_of HT_.out au28) (fun _ _ _ h => h) (Or.inl ⟨by rfl, ?_⟩) ?_ ?_
     rotate_left
     · intro w'
       go_simp
       with_reducible rfl
     rotate_left
     · simp only [Act.put, List.setIfInBounds_toArray, List.set_cons_zero, List.set_cons_succ, i64_w, i32_w]
       rfl
     refine one_ (i := 7) (N := some 13) #[true, true, true, true, true, true, true, true, false] rfl rfl (one_of HT_.out au28) (by decide) (fun K hK => ?_)
     refine box_step ?hg (N := 13) ?hd (cs := #[.int .i64 0, .int .i64 0, .int .i64 0]) (t := 54) ?hr ?_; (case hd => rfl); (case hg => rfl); (case hr => first | (go_simp; done) | (go_simp; rfl))
     intro gb138 hg w26 hbox hb
     have n0_ := Aside0.mk (Kd.R_below (Kd.R_elderB au11 gb138 (Nat.le_of_eq hg.symm)) hb)
     have n1_ := Aside0.mk (blk_below (g := gb136) (o := .cells #[.int .i64 t130, .int .i64 t131, .int .i64 t132, .int .i64 t133] 26 (0, 0)) au5 hb)
     have n2_ := Aside0.mk (below_step au27 hb)
     have n3_ := Aside0.mk (hbox)
     have n4_ := Aside0.mk ((by rw [hg]; exact (below_size au27) : w.heap.size ≤ gb138))
     have n5_ := Aside0.mk ((by rw [hg]; exact (below_size au27) : w.heap.size ≤ gb138))
     have n6_ := Aside0.mk ((by rw [hg]; exact Nat.ne_of_lt (blk_lt (g := gb136) (o := .cells #[.int .i64 t130, .int .i64 t131, .int .i64 t132, .int .i64 t133] 26 (0, 0)) au5) : gb136 ≠ gb138))
     have n7_ := Aside0.mk ((by rw [hg]; exact Nat.ne_of_gt (blk_lt (g := gb136) (o := .cells #[.int .i64 t130, .int .i64 t131, .int .i64 t132, .int .i64 t133] 26 (0, 0)) au5) : gb138 ≠ gb136))
     clear HO129
     clear BK136
     clear HB
     have HO129 := n0_
     have BK136 := n1_
     have HB := n2_
     have BK138 := n3_
     have GW138 := n4_
     have GE138 := n5_
     have NB136_138 := n6_
     have NB138_136 := n7_
     clear n0_ n1_ n2_ n3_ n4_ n5_ n6_ n7_
     clear hb hbox hg
     refine hK.out _ _ ⟨(blk_cell BK136.out 0).trans rfl, (blk_cell BK136.out 1).trans rfl, (blk_cell BK136.out 2).trans rfl, (blk_cell BK136.out 3).trans rfl⟩ (fun hHeld => ?_)
     clear hK K
     refine norm_ (a' := ?_) ?_ ?_
     rotate_left
     · show Act.put _ (some 13) _ = _
       simp only [Act.put, List.setIfInBounds_toArray, List.set_cons_zero, List.set_cons_succ, i64_w, i32_w]
       rfl
     exact norm_ au25 (hCont (gb138) _ ⟨hHeld, (by (with_reducible repeat (first | apply Kd.R_alloc | apply Kd.R_drewN | apply Kd.R_drew)); exact Kd.R_mono HO129.out (fun _ hk => hk.2)), au5, au2, GW138.out, GE138.out, NB136_138.out, NB138_136.out, au19⟩)
   skip
   refine box_step ?hg (N := 13) ?hd (cs := #[.int .i64 0, .int .i64 0, .int .i64 0]) (t := 54) ?hr ?_; (case hd => rfl); (case hg => rfl); (case hr => first | (go_simp; done) | (go_simp; rfl))
   intro gb138 hg w26 hbox hb
   have n0_ := Aside0.mk (Kd.R_below (Kd.R_elderB au11 gb138 (Nat.le_of_eq hg.symm)) hb)
   have n1_ := Aside0.mk (blk_below (g := gb136) (o := .cells #[.int .i64 t130, .int .i64 t131, .int .i64 t132, .int .i64 t133] 26 (0, 0)) au5 hb)
   have n2_ := Aside0.mk (below_step au27 hb)
   have n3_ := Aside0.mk (hbox)
   have n4_ := Aside0.mk ((by rw [hg]; exact (below_size au27) : w.heap.size ≤ gb138))
   have n5_ := Aside0.mk ((by rw [hg]; exact (below_size au27) : w.heap.size ≤ gb138))
   have n6_ := Aside0.mk ((by rw [hg]; exact Nat.ne_of_lt (blk_lt (g := gb136) (o := .cells #[.int .i64 t130, .int .i64 t131, .int .i64 t132, .int .i64 t133] 26 (0, 0)) au5) : gb136 ≠ gb138))
   have n7_ := Aside0.mk ((by rw [hg]; exact Nat.ne_of_gt (blk_lt (g := gb136) (o := .cells #[.int .i64 t130, .int .i64 t131, .int .i64 t132, .int .i64 t133] 26 (0, 0)) au5) : gb138 ≠ gb136))
   clear HO129
   clear BK136
   clear HB
   have HO129 := n0_
   have BK136 := n1_
   have HB := n2_
   have BK138 := n3_
   have GW138 := n4_
   have GE138 := n5_
   have NB136_138 := n6_
   have NB138_136 := n7_
   clear n0_ n1_ n2_ n3_ n4_ n5_ n6_ n7_
   clear hb hbox hg
   refine hK.out _ _ ⟨(blk_cell BK136.out 0).trans rfl, (blk_cell BK136.out 1).trans rfl, (blk_cell BK136.out 2).trans rfl, (blk_cell BK136.out 3).trans rfl⟩ (fun hHeld => ?_)
   clear hK K
   refine norm_ (a' := ?_) ?_ ?_
   rotate_left
   · show Act.put _ (some 13) _ = _
     simp only [Act.put, List.setIfInBounds_toArray, List.set_cons_zero, List.set_cons_succ, i64_w, i32_w]
     rfl
   refine one_ (i := 3) (N := some 48) #[true, true, true, true, false, false, false, true, false] rfl rfl (one_of HT_.out au28) (by decide) (fun K hK => ?_)
   refine goes_ Try.func29 au28 rfl #[.int .i64 a1, .int .i64 100] (by rfl) rfl rfl au12 ?_
   with_reducible refine (dialtonelaw14_pick.calls a1 100 t137 _ A10.out).mono ?_
   rintro e w' ⟨rfl, ⟨nd, rfl⟩⟩
   refine ⟨_, rfl, ?_⟩
   refine hK.out _ _ ⟨(blk_cell BK136.out 0).trans rfl, (blk_cell BK136.out 1).trans rfl, (blk_cell BK136.out 2).trans rfl, (blk_cell BK136.out 3).trans rfl⟩ (fun hHeld => ?_)
   clear hK K
   refine norm_ (a' := ?_) ?_ ?_
   rotate_left
   · show Act.put _ (some 48) _ = _
     simp only [Act.put, List.setIfInBounds_toArray, List.set_cons_zero, List.set_cons_succ, i64_w, i32_w]
     rfl
   refine pure_ (i := 4) (N := some 49) (v := ?_) (a' := ?_) #[true, true, true, true, true, false, false, true, false] rfl rfl (any_of HT_.out au28) (fun _ _ _ h => h) (Or.inl ⟨by rfl, ?_⟩) ?_ ?_
   rotate_left
   · intro w'
     go_simp
     with_reducible rfl
   rotate_left
   · simp only [Act.put, List.setIfInBounds_toArray, List.set_cons_zero, List.set_cons_succ, i64_w, i32_w]
     rfl
   refine pure_ (i := 5) (N := some 50) (v := ?_) (a' := ?_) #[true, true, true, true, true, true, false, true, false] rfl rfl (any_of HT_.out au28) (fun _ _ _ h => h) (Or.inl ⟨by rfl, ?_⟩) ?_ ?_
   rotate_left
   · intro w'
     go_simp
     with_reducible rfl
   rotate_left
   · simp only [Act.put, List.setIfInBounds_toArray, List.set_cons_zero, List.set_cons_succ, i64_w, i32_w]
     rfl
   refine pure_ (i := 6) (N := some 51) (v := ?_) (a' := ?_) #[true, true, true, true, true, true, true, true, false] rfl rfl (any_of HT_.out au28) (fun _ _ _ h => h) (Or.inl ⟨by rfl, ?_⟩) ?_ ?_
   rotate_left
   · intro w'
     go_simp
     with_reducible rfl
   rotate_left
   · simp only [Act.put, List.setIfInBounds_toArray, List.set_cons_zero, List.set_cons_succ, i64_w, i32_w]
     rfl
   exact norm_ au25 (hCont (gb138) _ ⟨hHeld, (by (with_reducible repeat (first | apply Kd.R_alloc | apply Kd.R_drewN | apply Kd.R_drew)); exact Kd.R_mono HO129.out (fun _ hk => hk.2)), au5, au2, GW138.out, GE138.out, NB136_138.out, NB138_136.out, au19⟩)
 rintro gb138 w27 ⟨hS_, h0_, h1_, h2_, h3_, h4_, h5_, h6_, h7_⟩
 have n0_ : Aside0 (Kd.R k54 54 w27 w.heap.size (fun k_ => k_ ≠ gb138) (.slice Ao20 t127.length co20) t127) := ⟨h0_⟩
 have n1_ : Aside0 (w27.heap[gb136]? = some (.cells #[.int .i64 t130, .int .i64 t131, .int .i64 t132, .int .i64 t133] 26 (0, 0))) := ⟨h1_⟩
 have n2_ : Aside0 (w27.heap[gb138]? = some (.cells #[.int .i64 0, .int .i64 0, .int .i64 0] 54 (0, 0))) := ⟨h2_⟩
 have n3_ : Aside0 (w.heap.size ≤ gb138) := ⟨h3_⟩
 have n4_ : Aside0 (w.heap.size ≤ gb138) := ⟨h4_⟩
 have n5_ : Aside0 (gb136 ≠ gb138) := ⟨h5_⟩
 have n6_ : Aside0 (gb138 ≠ gb136) := ⟨h6_⟩
 have n7_ : Aside0 (Below w.heap.size w w27) := ⟨h7_⟩
 clear HO129
 clear BK136
 clear HB
 clear h0_ h1_ h2_ h3_ h4_ h5_ h6_ h7_
 have HO129 := n0_
 have BK136 := n1_
 have BK138 := n2_
 have GW138 := n3_
 have GE138 := n4_
 have NB136_138 := n5_
 have NB138_136 := n6_
 have HB := n7_
 clear n0_ n1_ n2_ n3_ n4_ n5_ n6_ n7_
 have hHeld : w27.cell? ⟨gb136, 0, none⟩ = some (.int .i64 t130) ∧ w27.cell? ⟨gb136, 1, none⟩ = some (.int .i64 t131) ∧ w27.cell? ⟨gb136, 2, none⟩ = some (.int .i64 t132) ∧ w27.cell? ⟨gb136, 3, none⟩ = some (.int .i64 t133) := hS_
 refine norm_ (a' := ?_) ?_ ?_
 rotate_left
 · simp only [putAll, Act.put, List.setIfInBounds_toArray, List.set_cons_zero, List.set_cons_succ]
   rfl
 refine one_ (i := 8) (N := none) #[true, true, true, true, true, true, true, true, true] rfl rfl (one_of HT_.out au28) (by decide) (fun K hK => ?_)
 have hs28 : w27.cell? ⟨gb138, 0, none⟩ = some (.int .i64 0) := (blk_cell BK138.out 0).trans rfl
 have hfs28 := blk_frozen BK138.out 0
 have hns28_0 := NB136_138.out
 have hms28_0 := NB138_136.out
 have hs29 : w27.cell? ⟨gb138, 1, none⟩ = some (.int .i64 0) := (blk_cell BK138.out 1).trans rfl
 have hfs29 := blk_frozen BK138.out 1
 have hns29_0 := NB136_138.out
 have hms29_0 := NB138_136.out
 have hs30 : w27.cell? ⟨gb138, 2, none⟩ = some (.int .i64 0) := (blk_cell BK138.out 2).trans rfl
 have hfs30 := blk_frozen BK138.out 2
 have hns30_0 := NB136_138.out
 have hms30_0 := NB138_136.out
 refine skip_ (w1 := ?_) (by rfl) rfl ?_ ?_
 rotate_left
 · go_simp
   rfl
 refine hK.out _ _ ⟨((cell_far (p := ⟨gb138, _, none⟩) NB136_138.out _).trans (((cell_far (p := ⟨gb138, _, none⟩) NB136_138.out _).trans (((cell_far (p := ⟨gb138, _, none⟩) NB136_138.out _).trans (hHeld.1)))))), ((cell_far (p := ⟨gb138, _, none⟩) NB136_138.out _).trans (((cell_far (p := ⟨gb138, _, none⟩) NB136_138.out _).trans (((cell_far (p := ⟨gb138, _, none⟩) NB136_138.out _).trans (hHeld.2.1)))))), ((cell_far (p := ⟨gb138, _, none⟩) NB136_138.out _).trans (((cell_far (p := ⟨gb138, _, none⟩) NB136_138.out _).trans (((cell_far (p := ⟨gb138, _, none⟩) NB136_138.out _).trans (hHeld.2.2.1)))))), ((cell_far (p := ⟨gb138, _, none⟩) NB136_138.out _).trans (((cell_far (p := ⟨gb138, _, none⟩) NB136_138.out _).trans (((cell_far (p := ⟨gb138, _, none⟩) NB136_138.out _).trans (hHeld.2.2.2))))))⟩ (fun hHeld => ?_)
 clear hK K
 refine done_ (done_of HT_.out au28) ?_
 try go_wp2
 have n0_ : Aside0 (Kd.R k54 54 (((w27.setCell ⟨gb138, 0, none⟩ (.int .i64 5)).setCell ⟨gb138, 1, none⟩ (.int .i64 ji11)).setCell ⟨gb138, 2, none⟩ (.int .i64 (-1))) w.heap.size (fun k_ => k_ ≠ gb138) (.slice Ao20 t127.length co20) t127) := ⟨by (with_reducible repeat (first | apply Kd.R_alloc | apply Kd.R_drewN | apply Kd.R_drew)); exact Kd.R_mono (Kd.R_far (p := ⟨gb138, 2, none⟩) (Kd.R_far (p := ⟨gb138, 1, none⟩) (Kd.R_far (p := ⟨gb138, 0, none⟩) (Kd.R_mono HO129.out (fun k_ hk => (⟨hk, hk⟩ : _ ∧ k_ ≠ gb138))) (fun _ hk => hk.2) (.int .i64 5)) (fun _ hk => hk.2) (.int .i64 ji11)) (fun _ hk => hk.2) (.int .i64 (-1))) (fun _ hk => hk.1)⟩
 have n1_ : Aside0 ((((w27.setCell ⟨gb138, 0, none⟩ (.int .i64 5)).setCell ⟨gb138, 1, none⟩ (.int .i64 ji11)).setCell ⟨gb138, 2, none⟩ (.int .i64 (-1))).heap[gb136]? = some (.cells #[.int .i64 t130, .int .i64 t131, .int .i64 t132, .int .i64 t133] 26 (0, 0))) := ⟨by (with_reducible repeat (first | refine blk_drewN ?_ _ | refine blk_drew ?_ | refine blk_alloc ?_ _)); refine blk_far ?_ NB136_138.out _; (with_reducible repeat (first | refine blk_drewN ?_ _ | refine blk_drew ?_ | refine blk_alloc ?_ _)); refine blk_far ?_ NB136_138.out _; (with_reducible repeat (first | refine blk_drewN ?_ _ | refine blk_drew ?_ | refine blk_alloc ?_ _)); refine blk_far ?_ NB136_138.out _; (with_reducible repeat (first | refine blk_drewN ?_ _ | refine blk_drew ?_ | refine blk_alloc ?_ _)); exact BK136.out⟩
 have n2_ : Aside0 ((((w27.setCell ⟨gb138, 0, none⟩ (.int .i64 5)).setCell ⟨gb138, 1, none⟩ (.int .i64 ji11)).setCell ⟨gb138, 2, none⟩ (.int .i64 (-1))).heap[gb138]? = some (.cells #[.int .i64 5, .int .i64 ji11, .int .i64 (-1)] 54 (0, 0))) := ⟨by (with_reducible repeat (first | refine blk_drewN ?_ _ | refine blk_drew ?_ | refine blk_alloc ?_ _)); refine blk_put (cs := #[.int .i64 5, .int .i64 ji11, .int .i64 0]) ?_ 2 _ rfl; (with_reducible repeat (first | refine blk_drewN ?_ _ | refine blk_drew ?_ | refine blk_alloc ?_ _)); refine blk_put (cs := #[.int .i64 5, .int .i64 0, .int .i64 0]) ?_ 1 _ rfl; (with_reducible repeat (first | refine blk_drewN ?_ _ | refine blk_drew ?_ | refine blk_alloc ?_ _)); refine blk_put (cs := #[.int .i64 0, .int .i64 0, .int .i64 0]) ?_ 0 _ rfl; (with_reducible repeat (first | refine blk_drewN ?_ _ | refine blk_drew ?_ | refine blk_alloc ?_ _)); exact BK138.out⟩
 have n3_ : Aside0 (Below w.heap.size w (((w27.setCell ⟨gb138, 0, none⟩ (.int .i64 5)).setCell ⟨gb138, 1, none⟩ (.int .i64 ji11)).setCell ⟨gb138, 2, none⟩ (.int .i64 (-1)))) := ⟨by repeat (first | (with_reducible first | exact HB.out | apply below_alloc | apply pw_below_drewN | apply below_drew1 | refine below_set ?_ GE136.out | refine below_set ?_ GE138.out) | exact HB.out)⟩
 (try clear HO129)
 (try clear BK136)
 (try clear BK138)
 (try clear HB)
 generalize (((w27.setCell ⟨gb138, 0, none⟩ (.int .i64 5)).setCell ⟨gb138, 1, none⟩ (.int .i64 ji11)).setCell ⟨gb138, 2, none⟩ (.int .i64 (-1))) = w31 at n0_ n1_ n2_ n3_ ⊢
 have HO129 := n0_
 have BK136 := n1_
 have BK138 := n2_
 have HB := n3_
 clear n0_ n1_ n2_ n3_
 have n0_ := Aside0.mk (Kd.R_drew HO129.out)
 have n1_ := Aside0.mk (blk_drew BK136.out)
 have n2_ := Aside0.mk (blk_drew BK138.out)
 have n3_ := Aside0.mk (below_drew1 HB.out)
 clear HO129
 clear BK136
 clear BK138
 clear HB
 have HO129 := n0_
 have BK136 := n1_
 have BK138 := n2_
 have HB := n3_
 clear n0_ n1_ n2_ n3_
 refine start_ (n := 9) (S := fun w' => w'.cell? ⟨gb138, 0, none⟩ = some (.int .i64 5) ∧ w'.cell? ⟨gb138, 1, none⟩ = some (.int .i64 ji11) ∧ w'.cell? ⟨gb138, 2, none⟩ = some (.int .i64 (-1))) (ds := []) #[false, false, false, false, false, false, false, false, false] au28 rfl rfl ⟨(blk_cell BK138.out 0).trans rfl, (blk_cell BK138.out 1).trans rfl, (blk_cell BK138.out 2).trans rfl⟩ (fun hHeld => ?_); refine with_tabW dialtonelaw14_LifeRestores.tab8 dialtonelaw14_LifeRestores.bits8 (fun HT_ HW_ => ?_)
 generalize w31.drew = w32 at HO129 BK136 BK138 HB hHeld ⊢
 refine pure_ (i := 0) (N := some 52) (v := ?_) (a' := ?_) #[true, false, false, false, false, false, false, false, false] rfl rfl (any_of HT_.out au28) (fun _ _ _ h => h) (Or.inl ⟨by rfl, ?_⟩) ?_ ?_
 rotate_left
 · intro w'
   go_simp
   with_reducible rfl
 rotate_left
 · simp only [Act.put, List.setIfInBounds_toArray, List.set_cons_zero, List.set_cons_succ, i64_w, i32_w]
   rfl
 refine pure_ (i := 2) (N := some 54) (v := ?_) (a' := ?_) #[true, false, true, false, false, false, false, false, false] rfl rfl (any_of HT_.out au28) (fun _ _ _ h => h) (Or.inl ⟨by rfl, ?_⟩) ?_ ?_
 rotate_left
 · intro w'
   go_simp
   with_reducible rfl
 rotate_left
 · simp only [Act.put, List.setIfInBounds_toArray, List.set_cons_zero, List.set_cons_succ, i64_w, i32_w]
   rfl
 refine take_ (i := 1) (N := some 53) (v := ?_) (a' := ?_) #[true, true, true, false, false, false, false, false, false] rfl rfl (take_ofW HT_.out HW_.out au28) (fun _ _ _ h => h) (Or.inl ⟨by rfl, ?_⟩) hHeld ?_ ?_
 rotate_left
 · rintro w' ⟨s0, s1, s2⟩
   go_simp
   with_reducible rfl
 rotate_left
 · simp only [Act.put, List.setIfInBounds_toArray, List.set_cons_zero, List.set_cons_succ, i64_w, i32_w]
   rfl
 refine join_ (σ := Nat) 1 #[true, true, true, true, true, true, true, true, false] (fun s_ => [(55, .int .i64 t139), (14, .pointer (some ⟨s_, 0, none⟩)), (56, .int .i64 (wrap64 ((ji11) + t139))), (57, .int .i64 ji13), (58, .agg #[.int .i64 6, .int .i64 ji13, .int .i64 (-1)])]) (fun s_ w' => (w'.cell? ⟨gb138, 0, none⟩ = some (.int .i64 5) ∧ w'.cell? ⟨gb138, 1, none⟩ = some (.int .i64 ji11) ∧ w'.cell? ⟨gb138, 2, none⟩ = some (.int .i64 (-1))) ∧ (Kd.R k54 54 w' w.heap.size (fun k_ => k_ ≠ gb138 ∧ k_ ≠ s_) (.slice Ao20 t127.length co20) t127) ∧ (w'.heap[gb136]? = some (.cells #[.int .i64 t130, .int .i64 t131, .int .i64 t132, .int .i64 t133] 26 (0, 0))) ∧ (w'.heap[gb138]? = some (.cells #[.int .i64 5, .int .i64 ji11, .int .i64 (-1)] 54 (0, 0))) ∧ (w'.heap[s_]? = some (.cells #[.int .i64 0, .int .i64 0, .int .i64 0] 54 (0, 0))) ∧ (w.heap.size ≤ s_) ∧ (w.heap.size ≤ s_) ∧ (gb136 ≠ s_) ∧ (s_ ≠ gb136) ∧ (gb138 ≠ s_) ∧ (s_ ≠ gb138) ∧ (Below w.heap.size w w')) ?_ ?_
 rotate_left
 · intro hCont
   refine two_ (i := 3) (j := 7) (Ni := some 55) (Nj := some 14) #[true, true, true, true, false, false, false, false, false] #[true, true, true, false, false, false, false, true, false] rfl rfl rfl rfl (two_of HT_.out au28) (by decide) (by decide) (fun K hK => ?_) (fun K hK => ?_)
   · skip
     refine goes_ Try.func29 au28 rfl #[.int .i64 a2, .int .i64 3000000] (by rfl) rfl rfl au12 ?_
     with_reducible refine (dialtonelaw14_pick.calls a2 3000000 t139 _ A12.out).mono ?_
     rintro e w' ⟨rfl, ⟨nd, rfl⟩⟩
     refine ⟨_, rfl, ?_⟩
     refine hK.out _ _ ⟨(blk_cell BK138.out 0).trans rfl, (blk_cell BK138.out 1).trans rfl, (blk_cell BK138.out 2).trans rfl⟩ (fun hHeld => ?_)
     clear hK K
     refine norm_ (a' := ?_) ?_ ?_
     rotate_left
     · show Act.put _ (some 55) _ = _
       simp only [Act.put, List.setIfInBounds_toArray, List.set_cons_zero, List.set_cons_succ, i64_w, i32_w]
       rfl
     refine pure_ (i := 4) (N := some 56) (v := ?_) (a' := ?_) #[true, true, true, true, true, false, false, false, false] rfl rfl (any_of HT_.out au28) (fun _ _ _ h => h) (Or.inl ⟨by rfl, ?_⟩) ?_ ?_
     rotate_left
     · intro w'
       go_simp
       with_reducible rfl
     rotate_left
     · simp only [Act.put, List.setIfInBounds_toArray, List.set_cons_zero, List.set_cons_succ, i64_w, i32_w]
       rfl
     refine pure_ (i := 5) (N := some 57) (v := ?_) (a' := ?_) #[true, true, true, true, true, true, false, false, false] rfl rfl (any_of HT_.out au28) (fun _ _ _ h => h) (Or.inl ⟨by rfl, ?_⟩) ?_ ?_
     rotate_left
     · intro w'
       go_simp
       with_reducible rfl
     rotate_left
     · simp only [Act.put, List.setIfInBounds_toArray, List.set_cons_zero, List.set_cons_succ, i64_w, i32_w]
       rfl
     refine pure_ (i := 6) (N := some 58) (v := ?_) (a' := ?_) #[true, true, true, true, true, true, true, false, false] rfl rfl (any_of HT_.out au28) (fun _ _ _ h => h) (Or.inl ⟨by rfl, ?_⟩) ?_ ?_
     rotate_left
     · intro w'
       go_simp
       with_reducible rfl
     rotate_left
     · simp only [Act.put, List.setIfInBounds_toArray, List.set_cons_zero, List.set_cons_succ, i64_w, i32_w]
       rfl
     refine one_ (i := 7) (N := some 14) #[true, true, true, true, true, true, true, true, false] rfl rfl (one_of HT_.out au28) (by decide) (fun K hK => ?_)
     refine box_step ?hg (N := 14) ?hd (cs := #[.int .i64 0, .int .i64 0, .int .i64 0]) (t := 54) ?hr ?_; (case hd => rfl); (case hg => rfl); (case hr => first | (go_simp; done) | (go_simp; rfl))
     intro gb140 hg w33 hbox hb
     have n0_ := Aside0.mk (Kd.R_below (Kd.R_elderB au11 gb140 (Nat.le_of_eq hg.symm)) hb)
     have n1_ := Aside0.mk (blk_below (g := gb136) (o := .cells #[.int .i64 t130, .int .i64 t131, .int .i64 t132, .int .i64 t133] 26 (0, 0)) au5 hb)
     have n2_ := Aside0.mk (blk_below (g := gb138) (o := .cells #[.int .i64 5, .int .i64 ji11, .int .i64 (-1)] 54 (0, 0)) au2 hb)
     have n3_ := Aside0.mk (below_step au19 hb)
     have n4_ := Aside0.mk (hbox)
     have n5_ := Aside0.mk ((by rw [hg]; exact (below_size au19) : w.heap.size ≤ gb140))
     have n6_ := Aside0.mk ((by rw [hg]; exact (below_size au19) : w.heap.size ≤ gb140))
     have n7_ := Aside0.mk ((by rw [hg]; exact Nat.ne_of_lt (blk_lt (g := gb136) (o := .cells #[.int .i64 t130, .int .i64 t131, .int .i64 t132, .int .i64 t133] 26 (0, 0)) au5) : gb136 ≠ gb140))
     have n8_ := Aside0.mk ((by rw [hg]; exact Nat.ne_of_gt (blk_lt (g := gb136) (o := .cells #[.int .i64 t130, .int .i64 t131, .int .i64 t132, .int .i64 t133] 26 (0, 0)) au5) : gb140 ≠ gb136))
     have n9_ := Aside0.mk ((by rw [hg]; exact Nat.ne_of_lt (blk_lt (g := gb138) (o := .cells #[.int .i64 5, .int .i64 ji11, .int .i64 (-1)] 54 (0, 0)) au2) : gb138 ≠ gb140))
     have n10_ := Aside0.mk ((by rw [hg]; exact Nat.ne_of_gt (blk_lt (g := gb138) (o := .cells #[.int .i64 5, .int .i64 ji11, .int .i64 (-1)] 54 (0, 0)) au2) : gb140 ≠ gb138))
     clear HO129
     clear BK136
     clear BK138
     clear HB
     have HO129 := n0_
     have BK136 := n1_
     have BK138 := n2_
     have HB := n3_
     have BK140 := n4_
     have GW140 := n5_
     have GE140 := n6_
     have NB136_140 := n7_
     have NB140_136 := n8_
     have NB138_140 := n9_
     have NB140_138 := n10_
     clear n0_ n1_ n2_ n3_ n4_ n5_ n6_ n7_ n8_ n9_ n10_
     clear hb hbox hg
     refine hK.out _ _ ⟨(blk_cell BK138.out 0).trans rfl, (blk_cell BK138.out 1).trans rfl, (blk_cell BK138.out 2).trans rfl⟩ (fun hHeld => ?_)
     clear hK K
     refine norm_ (a' := ?_) ?_ ?_
     rotate_left
     · show Act.put _ (some 14) _ = _
       simp only [Act.put, List.setIfInBounds_toArray, List.set_cons_zero, List.set_cons_succ, i64_w, i32_w]
       rfl
     exact norm_ au25 (hCont (gb140) _ ⟨hHeld, au11, au5, au2, au1, GW140.out, GE140.out, NB136_140.out, NB140_136.out, NB138_140.out, NB140_138.out, au3⟩)
   skip
   refine box_step ?hg (N := 14) ?hd (cs := #[.int .i64 0, .int .i64 0, .int .i64 0]) (t := 54) ?hr ?_; (case hd => rfl); (case hg => rfl); (case hr => first | (go_simp; done) | (go_simp; rfl))
   intro gb140 hg w33 hbox hb
   have n0_ := Aside0.mk (Kd.R_below (Kd.R_elderB au11 gb140 (Nat.le_of_eq hg.symm)) hb)
   have n1_ := Aside0.mk (blk_below (g := gb136) (o := .cells #[.int .i64 t130, .int .i64 t131, .int .i64 t132, .int .i64 t133] 26 (0, 0)) au5 hb)
   have n2_ := Aside0.mk (blk_below (g := gb138) (o := .cells #[.int .i64 5, .int .i64 ji11, .int .i64 (-1)] 54 (0, 0)) au2 hb)
   have n3_ := Aside0.mk (below_step au19 hb)
   have n4_ := Aside0.mk (hbox)
   have n5_ := Aside0.mk ((by rw [hg]; exact (below_size au19) : w.heap.size ≤ gb140))
   have n6_ := Aside0.mk ((by rw [hg]; exact (below_size au19) : w.heap.size ≤ gb140))
   have n7_ := Aside0.mk ((by rw [hg]; exact Nat.ne_of_lt (blk_lt (g := gb136) (o := .cells #[.int .i64 t130, .int .i64 t131, .int .i64 t132, .int .i64 t133] 26 (0, 0)) au5) : gb136 ≠ gb140))
   have n8_ := Aside0.mk ((by rw [hg]; exact Nat.ne_of_gt (blk_lt (g := gb136) (o := .cells #[.int .i64 t130, .int .i64 t131, .int .i64 t132, .int .i64 t133] 26 (0, 0)) au5) : gb140 ≠ gb136))
   have n9_ := Aside0.mk ((by rw [hg]; exact Nat.ne_of_lt (blk_lt (g := gb138) (o := .cells #[.int .i64 5, .int .i64 ji11, .int .i64 (-1)] 54 (0, 0)) au2) : gb138 ≠ gb140))
   have n10_ := Aside0.mk ((by rw [hg]; exact Nat.ne_of_gt (blk_lt (g := gb138) (o := .cells #[.int .i64 5, .int .i64 ji11, .int .i64 (-1)] 54 (0, 0)) au2) : gb140 ≠ gb138))
   clear HO129
   clear BK136
   clear BK138
   clear HB
   have HO129 := n0_
   have BK136 := n1_
   have BK138 := n2_
   have HB := n3_
   have BK140 := n4_
   have GW140 := n5_
   have GE140 := n6_
   have NB136_140 := n7_
   have NB140_136 := n8_
   have NB138_140 := n9_
   have NB140_138 := n10_
   clear n0_ n1_ n2_ n3_ n4_ n5_ n6_ n7_ n8_ n9_ n10_
   clear hb hbox hg
   refine hK.out _ _ ⟨(blk_cell BK138.out 0).trans rfl, (blk_cell BK138.out 1).trans rfl, (blk_cell BK138.out 2).trans rfl⟩ (fun hHeld => ?_)
   clear hK K
   refine norm_ (a' := ?_) ?_ ?_
   rotate_left
   · show Act.put _ (some 14) _ = _
     simp only [Act.put, List.setIfInBounds_toArray, List.set_cons_zero, List.set_cons_succ, i64_w, i32_w]
     rfl
   refine one_ (i := 3) (N := some 55) #[true, true, true, true, false, false, false, true, false] rfl rfl (one_of HT_.out au28) (by decide) (fun K hK => ?_)
   refine goes_ Try.func29 au28 rfl #[.int .i64 a2, .int .i64 3000000] (by rfl) rfl rfl au12 ?_
   with_reducible refine (dialtonelaw14_pick.calls a2 3000000 t139 _ A12.out).mono ?_
   rintro e w' ⟨rfl, ⟨nd, rfl⟩⟩
   refine ⟨_, rfl, ?_⟩
   refine hK.out _ _ ⟨(blk_cell BK138.out 0).trans rfl, (blk_cell BK138.out 1).trans rfl, (blk_cell BK138.out 2).trans rfl⟩ (fun hHeld => ?_)
   clear hK K
   refine norm_ (a' := ?_) ?_ ?_
   rotate_left
   · show Act.put _ (some 55) _ = _
     simp only [Act.put, List.setIfInBounds_toArray, List.set_cons_zero, List.set_cons_succ, i64_w, i32_w]
     rfl
   refine pure_ (i := 4) (N := some 56) (v := ?_) (a' := ?_) #[true, true, true, true, true, false, false, true, false] rfl rfl (any_of HT_.out au28) (fun _ _ _ h => h) (Or.inl ⟨by rfl, ?_⟩) ?_ ?_
   rotate_left
   · intro w'
     go_simp
     with_reducible rfl
   rotate_left
   · simp only [Act.put, List.setIfInBounds_toArray, List.set_cons_zero, List.set_cons_succ, i64_w, i32_w]
     rfl
   refine pure_ (i := 5) (N := some 57) (v := ?_) (a' := ?_) #[true, true, true, true, true, true, false, true, false] rfl rfl (any_of HT_.out au28) (fun _ _ _ h => h) (Or.inl ⟨by rfl, ?_⟩) ?_ ?_
   rotate_left
   · intro w'
     go_simp
     with_reducible rfl
   rotate_left
   · simp only [Act.put, List.setIfInBounds_toArray, List.set_cons_zero, List.set_cons_succ, i64_w, i32_w]
     rfl
   refine pure_ (i := 6) (N := some 58) (v := ?_) (a' := ?_) #[true, true, true, true, true, true, true, true, false] rfl rfl (any_of HT_.out au28) (fun _ _ _ h => h) (Or.inl ⟨by rfl, ?_⟩) ?_ ?_
   rotate_left
   · intro w'
     go_simp
     with_reducible rfl
   rotate_left
   · simp only [Act.put, List.setIfInBounds_toArray, List.set_cons_zero, List.set_cons_succ, i64_w, i32_w]
     rfl
   exact norm_ au25 (hCont (gb140) _ ⟨hHeld, au11, au5, au2, au1, GW140.out, GE140.out, NB136_140.out, NB140_136.out, NB138_140.out, NB140_138.out, au3⟩)
 rintro gb140 w34 ⟨hS_, h0_, h1_, h2_, h3_, h4_, h5_, h6_, h7_, h8_, h9_, h10_⟩
 have n0_ : Aside0 (Kd.R k54 54 w34 w.heap.size (fun k_ => k_ ≠ gb138 ∧ k_ ≠ gb140) (.slice Ao20 t127.length co20) t127) := ⟨h0_⟩
 have n1_ : Aside0 (w34.heap[gb136]? = some (.cells #[.int .i64 t130, .int .i64 t131, .int .i64 t132, .int .i64 t133] 26 (0, 0))) := ⟨h1_⟩
 have n2_ : Aside0 (w34.heap[gb138]? = some (.cells #[.int .i64 5, .int .i64 ji11, .int .i64 (-1)] 54 (0, 0))) := ⟨h2_⟩
 have n3_ : Aside0 (w34.heap[gb140]? = some (.cells #[.int .i64 0, .int .i64 0, .int .i64 0] 54 (0, 0))) := ⟨h3_⟩
 have n4_ : Aside0 (w.heap.size ≤ gb140) := ⟨h4_⟩
 have n5_ : Aside0 (w.heap.size ≤ gb140) := ⟨h5_⟩
 have n6_ : Aside0 (gb136 ≠ gb140) := ⟨h6_⟩
 have n7_ : Aside0 (gb140 ≠ gb136) := ⟨h7_⟩
 have n8_ : Aside0 (gb138 ≠ gb140) := ⟨h8_⟩
 have n9_ : Aside0 (gb140 ≠ gb138) := ⟨h9_⟩
 have n10_ : Aside0 (Below w.heap.size w w34) := ⟨h10_⟩
 clear HO129
 clear BK136
 clear BK138
 clear HB
 clear h0_ h1_ h2_ h3_ h4_ h5_ h6_ h7_ h8_ h9_ h10_
 have HO129 := n0_
 have BK136 := n1_
 have BK138 := n2_
 have BK140 := n3_
 have GW140 := n4_
 have GE140 := n5_
 have NB136_140 := n6_
 have NB140_136 := n7_
 have NB138_140 := n8_
 have NB140_138 := n9_
 have HB := n10_
 clear n0_ n1_ n2_ n3_ n4_ n5_ n6_ n7_ n8_ n9_ n10_
 have hHeld : w34.cell? ⟨gb138, 0, none⟩ = some (.int .i64 5) ∧ w34.cell? ⟨gb138, 1, none⟩ = some (.int .i64 ji11) ∧ w34.cell? ⟨gb138, 2, none⟩ = some (.int .i64 (-1)) := hS_
 refine norm_ (a' := ?_) ?_ ?_
 rotate_left
 · simp only [putAll, Act.put, List.setIfInBounds_toArray, List.set_cons_zero, List.set_cons_succ]
   rfl
 refine one_ (i := 8) (N := none) #[true, true, true, true, true, true, true, true, true] rfl rfl (one_of HT_.out au28) (by decide) (fun K hK => ?_)
 have hs35 : w34.cell? ⟨gb140, 0, none⟩ = some (.int .i64 0) := (blk_cell BK140.out 0).trans rfl
 have hfs35 := blk_frozen BK140.out 0
 have hns35_0 := NB136_140.out
 have hns35_1 := NB138_140.out
 have hms35_0 := NB140_136.out
 have hms35_1 := NB140_138.out
 have hs36 : w34.cell? ⟨gb140, 1, none⟩ = some (.int .i64 0) := (blk_cell BK140.out 1).trans rfl
 have hfs36 := blk_frozen BK140.out 1
 have hns36_0 := NB136_140.out
 have hns36_1 := NB138_140.out
 have hms36_0 := NB140_136.out
 have hms36_1 := NB140_138.out
 have hs37 : w34.cell? ⟨gb140, 2, none⟩ = some (.int .i64 0) := (blk_cell BK140.out 2).trans rfl
 have hfs37 := blk_frozen BK140.out 2
 have hns37_0 := NB136_140.out
 have hns37_1 := NB138_140.out
 have hms37_0 := NB140_136.out
 have hms37_1 := NB140_138.out
 refine skip_ (w1 := ?_) (by rfl) rfl ?_ ?_
 rotate_left
 · go_simp
   rfl
 refine hK.out _ _ ⟨((cell_far (p := ⟨gb140, _, none⟩) NB138_140.out _).trans (((cell_far (p := ⟨gb140, _, none⟩) NB138_140.out _).trans (((cell_far (p := ⟨gb140, _, none⟩) NB138_140.out _).trans (hHeld.1)))))), ((cell_far (p := ⟨gb140, _, none⟩) NB138_140.out _).trans (((cell_far (p := ⟨gb140, _, none⟩) NB138_140.out _).trans (((cell_far (p := ⟨gb140, _, none⟩) NB138_140.out _).trans (hHeld.2.1)))))), ((cell_far (p := ⟨gb140, _, none⟩) NB138_140.out _).trans (((cell_far (p := ⟨gb140, _, none⟩) NB138_140.out _).trans (((cell_far (p := ⟨gb140, _, none⟩) NB138_140.out _).trans (hHeld.2.2))))))⟩ (fun hHeld => ?_)
 clear hK K
 refine done_ (done_of HT_.out au28) ?_
 try go_wp2
 have n0_ : Aside0 (Kd.R k54 54 (((w34.setCell ⟨gb140, 0, none⟩ (.int .i64 6)).setCell ⟨gb140, 1, none⟩ (.int .i64 ji13)).setCell ⟨gb140, 2, none⟩ (.int .i64 (-1))) w.heap.size (fun k_ => k_ ≠ gb138 ∧ k_ ≠ gb140) (.slice Ao20 t127.length co20) t127) := ⟨by (with_reducible repeat (first | apply Kd.R_alloc | apply Kd.R_drewN | apply Kd.R_drew)); exact Kd.R_mono (Kd.R_far (p := ⟨gb140, 2, none⟩) (Kd.R_far (p := ⟨gb140, 1, none⟩) (Kd.R_far (p := ⟨gb140, 0, none⟩) (Kd.R_mono HO129.out (fun k_ hk => (⟨hk, hk.2⟩ : _ ∧ k_ ≠ gb140))) (fun _ hk => hk.2) (.int .i64 6)) (fun _ hk => hk.2) (.int .i64 ji13)) (fun _ hk => hk.2) (.int .i64 (-1))) (fun _ hk => ⟨hk.1.1, hk.1.2⟩)⟩
 have n1_ : Aside0 ((((w34.setCell ⟨gb140, 0, none⟩ (.int .i64 6)).setCell ⟨gb140, 1, none⟩ (.int .i64 ji13)).setCell ⟨gb140, 2, none⟩ (.int .i64 (-1))).heap[gb136]? = some (.cells #[.int .i64 t130, .int .i64 t131, .int .i64 t132, .int .i64 t133] 26 (0, 0))) := ⟨by (with_reducible repeat (first | refine blk_drewN ?_ _ | refine blk_drew ?_ | refine blk_alloc ?_ _)); refine blk_far ?_ NB136_140.out _; (with_reducible repeat (first | refine blk_drewN ?_ _ | refine blk_drew ?_ | refine blk_alloc ?_ _)); refine blk_far ?_ NB136_140.out _; (with_reducible repeat (first | refine blk_drewN ?_ _ | refine blk_drew ?_ | refine blk_alloc ?_ _)); refine blk_far ?_ NB136_140.out _; (with_reducible repeat (first | refine blk_drewN ?_ _ | refine blk_drew ?_ | refine blk_alloc ?_ _)); exact BK136.out⟩
 have n2_ : Aside0 ((((w34.setCell ⟨gb140, 0, none⟩ (.int .i64 6)).setCell ⟨gb140, 1, none⟩ (.int .i64 ji13)).setCell ⟨gb140, 2, none⟩ (.int .i64 (-1))).heap[gb138]? = some (.cells #[.int .i64 5, .int .i64 ji11, .int .i64 (-1)] 54 (0, 0))) := ⟨by (with_reducible repeat (first | refine blk_drewN ?_ _ | refine blk_drew ?_ | refine blk_alloc ?_ _)); refine blk_far ?_ NB138_140.out _; (with_reducible repeat (first | refine blk_drewN ?_ _ | refine blk_drew ?_ | refine blk_alloc ?_ _)); refine blk_far ?_ NB138_140.out _; (with_reducible repeat (first | refine blk_drewN ?_ _ | refine blk_drew ?_ | refine blk_alloc ?_ _)); refine blk_far ?_ NB138_140.out _; (with_reducible repeat (first | refine blk_drewN ?_ _ | refine blk_drew ?_ | refine blk_alloc ?_ _)); exact BK138.out⟩
 have n3_ : Aside0 ((((w34.setCell ⟨gb140, 0, none⟩ (.int .i64 6)).setCell ⟨gb140, 1, none⟩ (.int .i64 ji13)).setCell ⟨gb140, 2, none⟩ (.int .i64 (-1))).heap[gb140]? = some (.cells #[.int .i64 6, .int .i64 ji13, .int .i64 (-1)] 54 (0, 0))) := ⟨by (with_reducible repeat (first | refine blk_drewN ?_ _ | refine blk_drew ?_ | refine blk_alloc ?_ _)); refine blk_put (cs := #[.int .i64 6, .int .i64 ji13, .int .i64 0]) ?_ 2 _ rfl; (with_reducible repeat (first | refine blk_drewN ?_ _ | refine blk_drew ?_ | refine blk_alloc ?_ _)); refine blk_put (cs := #[.int .i64 6, .int .i64 0, .int .i64 0]) ?_ 1 _ rfl; (with_reducible repeat (first | refine blk_drewN ?_ _ | refine blk_drew ?_ | refine blk_alloc ?_ _)); refine blk_put (cs := #[.int .i64 0, .int .i64 0, .int .i64 0]) ?_ 0 _ rfl; (with_reducible repeat (first | refine blk_drewN ?_ _ | refine blk_drew ?_ | refine blk_alloc ?_ _)); exact BK140.out⟩
 have n4_ : Aside0 (Below w.heap.size w (((w34.setCell ⟨gb140, 0, none⟩ (.int .i64 6)).setCell ⟨gb140, 1, none⟩ (.int .i64 ji13)).setCell ⟨gb140, 2, none⟩ (.int .i64 (-1)))) := ⟨by repeat (first | (with_reducible first | exact HB.out | apply below_alloc | apply pw_below_drewN | apply below_drew1 | refine below_set ?_ GE136.out | refine below_set ?_ GE138.out | refine below_set ?_ GE140.out) | exact HB.out)⟩
 (try clear HO129)
 (try clear BK136)
 (try clear BK138)
 (try clear BK140)
 (try clear HB)
 generalize (((w34.setCell ⟨gb140, 0, none⟩ (.int .i64 6)).setCell ⟨gb140, 1, none⟩ (.int .i64 ji13)).setCell ⟨gb140, 2, none⟩ (.int .i64 (-1))) = w38 at n0_ n1_ n2_ n3_ n4_ ⊢
 have HO129 := n0_
 have BK136 := n1_
 have BK138 := n2_
 have BK140 := n3_
 have HB := n4_
 clear n0_ n1_ n2_ n3_ n4_
 have n0_ := Aside0.mk (Kd.R_drew HO129.out)
 have n1_ := Aside0.mk (blk_drew BK136.out)
 have n2_ := Aside0.mk (blk_drew BK138.out)
 have n3_ := Aside0.mk (blk_drew BK140.out)
 have n4_ := Aside0.mk (below_drew1 HB.out)
 clear HO129
 clear BK136
 clear BK138
 clear BK140
 clear HB
 have HO129 := n0_
 have BK136 := n1_
 have BK138 := n2_
 have BK140 := n3_
 have HB := n4_
 clear n0_ n1_ n2_ n3_ n4_
 refine start_ (n := 8) (S := fun w' => w'.cell? ⟨gb138, 0, none⟩ = some (.int .i64 5) ∧ w'.cell? ⟨gb138, 1, none⟩ = some (.int .i64 ji11) ∧ w'.cell? ⟨gb138, 2, none⟩ = some (.int .i64 (-1)) ∧ w'.cell? ⟨gb140, 0, none⟩ = some (.int .i64 6) ∧ w'.cell? ⟨gb140, 1, none⟩ = some (.int .i64 ji13) ∧ w'.cell? ⟨gb140, 2, none⟩ = some (.int .i64 (-1))) (ds := []) #[false, false, false, false, false, false, false, false] au28 rfl rfl ⟨(blk_cell BK138.out 0).trans rfl, (blk_cell BK138.out 1).trans rfl, (blk_cell BK138.out 2).trans rfl, (blk_cell BK140.out 0).trans rfl, (blk_cell BK140.out 1).trans rfl, (blk_cell BK140.out 2).trans rfl⟩ (fun hHeld => ?_); refine with_tabW dialtonelaw14_LifeRestores.tab9 dialtonelaw14_LifeRestores.bits9 (fun HT_ HW_ => ?_)
 generalize w38.drew = w39 at HO129 BK136 BK138 BK140 HB hHeld ⊢
 refine pure_ (i := 1) (N := some 60) (v := ?_) (a' := ?_) #[false, true, false, false, false, false, false, false] rfl rfl (any_of HT_.out au28) (fun _ _ _ h => h) (Or.inl ⟨by rfl, ?_⟩) ?_ ?_
 rotate_left
 · intro w'
   go_simp
   with_reducible rfl
 rotate_left
 · simp only [Act.put, List.setIfInBounds_toArray, List.set_cons_zero, List.set_cons_succ, i64_w, i32_w]
   rfl
 refine take_ (i := 3) (N := some 62) (v := ?_) (a' := ?_) #[false, true, false, true, false, false, false, false] rfl rfl (take_ofW HT_.out HW_.out au28) (fun _ _ _ h => h) (Or.inl ⟨by rfl, ?_⟩) hHeld ?_ ?_
 rotate_left
 · rintro w' ⟨s0, s1, s2, s3, s4, s5⟩
   go_simp
   with_reducible rfl
 rotate_left
 · simp only [Act.put, List.setIfInBounds_toArray, List.set_cons_zero, List.set_cons_succ, i64_w, i32_w]
   rfl
 refine take_ (i := 4) (N := some 63) (v := ?_) (a' := ?_) #[false, true, false, true, true, false, false, false] rfl rfl (take_ofW HT_.out HW_.out au28) (fun _ _ _ h => h) (Or.inl ⟨by rfl, ?_⟩) hHeld ?_ ?_
 rotate_left
 · rintro w' ⟨s0, s1, s2, s3, s4, s5⟩
   go_simp
   with_reducible rfl
 rotate_left
 · simp only [Act.put, List.setIfInBounds_toArray, List.set_cons_zero, List.set_cons_succ, i64_w, i32_w]
   rfl
 refine join_ (σ := Value × Value × Value) 2 #[true, true, true, true, true, true, false, false] (fun s_ => [(59, s_.1), (61, s_.2.1), (64, s_.2.2)]) (fun s_ w' => (w'.cell? ⟨gb138, 0, none⟩ = some (.int .i64 5) ∧ w'.cell? ⟨gb138, 1, none⟩ = some (.int .i64 ji11) ∧ w'.cell? ⟨gb138, 2, none⟩ = some (.int .i64 (-1)) ∧ w'.cell? ⟨gb140, 0, none⟩ = some (.int .i64 6) ∧ w'.cell? ⟨gb140, 1, none⟩ = some (.int .i64 ji13) ∧ w'.cell? ⟨gb140, 2, none⟩ = some (.int .i64 (-1))) ∧ (Kd.R k54 54 w' w.heap.size (fun k_ => some k_ ≠ (s_.2.1 : Value).ownBlock ∧ some k_ ≠ (s_.2.2 : Value).ownBlock ∧ k_ ≠ gb138 ∧ k_ ≠ gb140) (.slice Ao20 t127.length co20) t127) ∧ (Kd.R k54 54 w' w.heap.size (fun k_ => some k_ ≠ (.slice Ao20 t127.length co20 : Value).ownBlock ∧ some k_ ≠ (s_.2.2 : Value).ownBlock ∧ k_ ≠ gb138 ∧ k_ ≠ gb140) s_.2.1 y144) ∧ (Kd.R k54 54 w' w.heap.size (fun k_ => some k_ ≠ (.slice Ao20 t127.length co20 : Value).ownBlock ∧ some k_ ≠ (s_.2.1 : Value).ownBlock ∧ k_ ≠ gb138 ∧ k_ ≠ gb140) s_.2.2 y147) ∧ (w'.heap[gb136]? = some (.cells #[.int .i64 t130, .int .i64 t131, .int .i64 t132, .int .i64 t133] 26 (0, 0))) ∧ (w'.heap[gb138]? = some (.cells #[.int .i64 5, .int .i64 ji11, .int .i64 (-1)] 54 (0, 0))) ∧ (w'.heap[gb140]? = some (.cells #[.int .i64 6, .int .i64 ji13, .int .i64 (-1)] 54 (0, 0))) ∧ (Below w.heap.size w w')) ?_ ?_
 rotate_left
 · intro hCont
   refine two_ (i := 0) (j := 5) (Ni := some 59) (Nj := some 64) #[true, true, false, true, true, false, false, false] #[false, true, false, true, true, true, false, false] rfl rfl rfl rfl (two_of HT_.out au28) (by decide) (by decide) (fun K hK => ?_) (fun K hK => ?_)
   · skip
     refine Kd.R_lit_step k54 _ 54 ?hg (N := 59) ?hd (xs := ([] : List (S54))) (inner := []) (ok := fun _ => True) (okp := fun _ => True) ?hr ?hp (fun _ hk => hk) trivial (Below.refl _ _) (Nat.le_refl _) (by simp) ?_; (case hd => rfl); (case hg => rfl); (case hr => first | (go_simp; done) | (go_simp; rfl)); (case hp => exact (Reps.none _ _))
     intro v142 w40 ho41 hb hg_ hnew_
     clear hg_ hnew_
     (first | rw [← Ny141.out] at ho41 | (simp only [Int.reduceToNat] at ho41; rw [← Ny141.out] at ho41))
     have n0_ := Aside0.mk (Kd.R_elder' au11 (Kd.R_base ho41) hb)
     have n1_ := Aside0.mk (Kd.R_lower (Kd.R_newB (Kd.R_newB (Kd.R_new' ho41 (Kd.R_lt au11)) (g := gb138) (o := .cells #[.int .i64 5, .int .i64 ji11, .int .i64 (-1)] 54 (0, 0)) au2) (g := gb140) (o := .cells #[.int .i64 6, .int .i64 ji13, .int .i64 (-1)] 54 (0, 0)) au1) (below_size au3))
     have n2_ := Aside0.mk (blk_below (g := gb136) (o := .cells #[.int .i64 t130, .int .i64 t131, .int .i64 t132, .int .i64 t133] 26 (0, 0)) au5 hb)
     have n3_ := Aside0.mk (blk_below (g := gb138) (o := .cells #[.int .i64 5, .int .i64 ji11, .int .i64 (-1)] 54 (0, 0)) au2 hb)
     have n4_ := Aside0.mk (blk_below (g := gb140) (o := .cells #[.int .i64 6, .int .i64 ji13, .int .i64 (-1)] 54 (0, 0)) au1 hb)
     have n5_ := Aside0.mk (below_step au3 hb)
     clear HO129
     clear BK136
     clear BK138
     clear BK140
     clear HB
     have HO129 := n0_
     have HO143 := n1_
     have BK136 := n2_
     have BK138 := n3_
     have BK140 := n4_
     have HB := n5_
     clear n0_ n1_ n2_ n3_ n4_ n5_
     clear hb ho41
     refine hK.out _ _ ⟨(blk_cell BK138.out 0).trans rfl, (blk_cell BK138.out 1).trans rfl, (blk_cell BK138.out 2).trans rfl, (blk_cell BK140.out 0).trans rfl, (blk_cell BK140.out 1).trans rfl, (blk_cell BK140.out 2).trans rfl⟩ (fun hHeld => ?_)
     clear hK K
     refine norm_ (a' := ?_) ?_ ?_
     rotate_left
     · show Act.put _ (some 59) _ = _
       simp only [Act.put, List.setIfInBounds_toArray, List.set_cons_zero, List.set_cons_succ, i64_w, i32_w]
       rfl
     refine two_ (i := 2) (j := 5) (Ni := some 61) (Nj := some 64) #[true, true, true, true, true, false, false, false] #[true, true, false, true, true, true, false, false] rfl rfl rfl rfl (two_of HT_.out au28) (by decide) (by decide) (fun K hK => ?_) (fun K hK => ?_)
     · skip
       refine Kd.R_append_rows_step k54 (w0 := w) w.heap.size (by rfl) (.tmp 59) (.tmp 60) 24 54 (.agg #[(.int .i64 0), (.int .i64 0), (.int .i64 0)]) 24 rfl Try.underlying24 info54 rfl (by decide) (by omega) v142 y141 t127 _ _ _ (fun k_ => some k_ ≠ (.slice Ao20 t127.length co20 : Value).ownBlock ∧ k_ ≠ gb138 ∧ k_ ≠ gb140) (fun _ => False) rfl rfl ?aO ?aR (fun _ _ h => h) (fun _ h => h.elim) ?aF ?aB ?aS ?aL ?_
       (case aR => repeat (first | exact (Kd.R_reads' HO129.out).2.2 | (with_reducible refine Kd.C_alloc ?_ _) | (with_reducible refine Kd.C_drewN ?_ _) | (with_reducible refine Kd.C_drew ?_)))
       (case aB => exact au3)
       (case aF => exact (fun k_ hk => ⟨Kd.fresh' (Kd.R_lt au11) k_ hk, Kd.freshB (g := gb138) (o := .cells #[.int .i64 5, .int .i64 ji11, .int .i64 (-1)] 54 (0, 0)) au2 k_ hk, Kd.freshB (g := gb140) (o := .cells #[.int .i64 6, .int .i64 ji13, .int .i64 (-1)] 54 (0, 0)) au1 k_ hk⟩))
       (case aO => exact (by (with_reducible repeat (first | apply Kd.R_alloc | apply Kd.R_drewN | apply Kd.R_drew)); exact Kd.R_mono HO143.out (fun _ hk => ⟨hk.1.1.2, ⟨hk.1.2, hk.2⟩⟩)))
       (case aS => exact (below_size au3))
       (case aL => have := LMc14.out; omega)
       intro v145 w42 ho hb hg hat
       rw [← Ny144.out] at ho
       have n0_ := Aside0.mk (Kd.R_after (ok := (fun k_ => k_ ≠ gb138 ∧ k_ ≠ gb140)) au11 hg hat)
       have n1_ := Aside0.mk (blk_grown (g := gb136) (o := .cells #[.int .i64 t130, .int .i64 t131, .int .i64 t132, .int .i64 t133] 26 (0, 0)) au5 hg (Kd.R_ne HO143.out BK136.out (by decide)))
       have n2_ := Aside0.mk (blk_grown (g := gb138) (o := .cells #[.int .i64 5, .int .i64 ji11, .int .i64 (-1)] 54 (0, 0)) au2 hg (Kd.R_away HO143.out (fun _ hk => hk.1.2)))
       have n3_ := Aside0.mk (blk_grown (g := gb140) (o := .cells #[.int .i64 6, .int .i64 ji13, .int .i64 (-1)] 54 (0, 0)) au1 hg (Kd.R_away HO143.out (fun _ hk => hk.2)))
       have n4_ := Aside0.mk (hb)
       have n5_ := Aside0.mk (ho)
       clear HO129
       clear BK136
       clear BK138
       clear BK140
       clear HB
       clear HO143
       have HO129 := n0_
       have BK136 := n1_
       have BK138 := n2_
       have BK140 := n3_
       have HB := n4_
       have HO146 := n5_
       clear n0_ n1_ n2_ n3_ n4_ n5_
       clear ho hb hg hat
       refine hK.out _ _ ⟨(blk_cell BK138.out 0).trans rfl, (blk_cell BK138.out 1).trans rfl, (blk_cell BK138.out 2).trans rfl, (blk_cell BK140.out 0).trans rfl, (blk_cell BK140.out 1).trans rfl, (blk_cell BK140.out 2).trans rfl⟩ (fun hHeld => ?_)
       clear hK K
       refine norm_ (a' := ?_) ?_ ?_
       rotate_left
       · show Act.put _ (some 61) _ = _
         simp only [Act.put, List.setIfInBounds_toArray, List.set_cons_zero, List.set_cons_succ, i64_w, i32_w]
         rfl
       refine one_ (i := 5) (N := some 64) #[true, true, true, true, true, true, false, false] rfl rfl (one_of HT_.out au28) (by decide) (fun K hK => ?_)
       refine Kd.R_lit_step k54 _ 54 ?hg (N := 64) ?hd (xs := ([(⟨5, ji11, (-1)⟩ : S54), (⟨6, ji13, (-1)⟩ : S54)] : List (S54))) (inner := [.int .i64 5, .int .i64 ji11, .int .i64 (-1), .int .i64 6, .int .i64 ji13, .int .i64 (-1)]) (ok := fun _ => True) (okp := fun _ => True) ?hr ?hp (fun _ hk => hk) trivial (Below.refl _ _) (Nat.le_refl _) (by simp) ?_; (case hd => rfl); (case hg => rfl); (case hr => first | (go_simp; done) | (go_simp; rfl)); (case hp => exact (Reps.c3 (show Kd.M k54 _ _ _ (⟨5, ji11, (-1)⟩ : S54) [.int .i64 5, .int .i64 ji11, .int .i64 (-1)] from (k54_mkM _ _ _ (⟨5, ji11, (-1)⟩ : S54) )) (Reps.c3 (show Kd.M k54 _ _ _ (⟨6, ji13, (-1)⟩ : S54) [.int .i64 6, .int .i64 ji13, .int .i64 (-1)] from (k54_mkM _ _ _ (⟨6, ji13, (-1)⟩ : S54) )) (Reps.none _ _))))
       intro v148 w43 ho44 hb hg_ hnew_
       clear hg_ hnew_
       (first | rw [← Ny147.out] at ho44 | (simp only [Int.reduceToNat] at ho44; rw [← Ny147.out] at ho44))
       have n0_ := Aside0.mk (Kd.R_elder' au11 (Kd.R_base ho44) hb)
       have n1_ := Aside0.mk (Kd.R_elder' (by (with_reducible repeat (first | apply Kd.R_alloc | apply Kd.R_drewN | apply Kd.R_drew)); exact HO146.out) (Kd.R_base ho44) hb)
       have n2_ := Aside0.mk (Kd.R_lower (Kd.R_newB (Kd.R_newB (Kd.R_new' (Kd.R_new' ho44 (Kd.R_lt au11)) (Kd.R_lt (by (with_reducible repeat (first | apply Kd.R_alloc | apply Kd.R_drewN | apply Kd.R_drew)); exact HO146.out))) (g := gb138) (o := .cells #[.int .i64 5, .int .i64 ji11, .int .i64 (-1)] 54 (0, 0)) au2) (g := gb140) (o := .cells #[.int .i64 6, .int .i64 ji13, .int .i64 (-1)] 54 (0, 0)) au1) (below_size au3))
       have n3_ := Aside0.mk (blk_below (g := gb136) (o := .cells #[.int .i64 t130, .int .i64 t131, .int .i64 t132, .int .i64 t133] 26 (0, 0)) au5 hb)
       have n4_ := Aside0.mk (blk_below (g := gb138) (o := .cells #[.int .i64 5, .int .i64 ji11, .int .i64 (-1)] 54 (0, 0)) au2 hb)
       have n5_ := Aside0.mk (blk_below (g := gb140) (o := .cells #[.int .i64 6, .int .i64 ji13, .int .i64 (-1)] 54 (0, 0)) au1 hb)
       have n6_ := Aside0.mk (below_step au3 hb)
       clear HO129
       clear HO146
       clear BK136
       clear BK138
       clear BK140
       clear HB
       have HO129 := n0_
       have HO146 := n1_
       have HO149 := n2_
       have BK136 := n3_
       have BK138 := n4_
       have BK140 := n5_
       have HB := n6_
       clear n0_ n1_ n2_ n3_ n4_ n5_ n6_
       clear hb ho44
       refine hK.out _ _ ⟨(blk_cell BK138.out 0).trans rfl, (blk_cell BK138.out 1).trans rfl, (blk_cell BK138.out 2).trans rfl, (blk_cell BK140.out 0).trans rfl, (blk_cell BK140.out 1).trans rfl, (blk_cell BK140.out 2).trans rfl⟩ (fun hHeld => ?_)
       clear hK K
       refine norm_ (a' := ?_) ?_ ?_
       rotate_left
       · show Act.put _ (some 64) _ = _
         simp only [Act.put, List.setIfInBounds_toArray, List.set_cons_zero, List.set_cons_succ, i64_w, i32_w]
         rfl
       exact norm_ au25 (hCont (v142, v145, v148) _ ⟨hHeld, (by (with_reducible repeat (first | apply Kd.R_alloc | apply Kd.R_drewN | apply Kd.R_drew)); exact Kd.R_mono HO129.out (fun _ hk => ⟨hk.1.2, ⟨hk.2, ⟨hk.1.1.1, hk.1.1.2⟩⟩⟩)), (by (with_reducible repeat (first | apply Kd.R_alloc | apply Kd.R_drewN | apply Kd.R_drew)); exact Kd.R_mono HO146.out (fun _ hk => ⟨hk.1.1, ⟨hk.2, ⟨hk.1.2.1, hk.1.2.2⟩⟩⟩)), (by (with_reducible repeat (first | apply Kd.R_alloc | apply Kd.R_drewN | apply Kd.R_drew)); exact Kd.R_mono HO149.out (fun _ hk => ⟨hk.1.1.1.2, ⟨hk.1.1.2, ⟨hk.1.2, hk.2⟩⟩⟩)), au5, au2, au1, au3⟩)
     skip
     refine Kd.R_lit_step k54 _ 54 ?hg (N := 64) ?hd (xs := ([(⟨5, ji11, (-1)⟩ : S54), (⟨6, ji13, (-1)⟩ : S54)] : List (S54))) (inner := [.int .i64 5, .int .i64 ji11, .int .i64 (-1), .int .i64 6, .int .i64 ji13, .int .i64 (-1)]) (ok := fun _ => True) (okp := fun _ => True) ?hr ?hp (fun _ hk => hk) trivial (Below.refl _ _) (Nat.le_refl _) (by simp) ?_; (case hd => rfl); (case hg => rfl); (case hr => first | (go_simp; done) | (go_simp; rfl)); (case hp => exact (Reps.c3 (show Kd.M k54 _ _ _ (⟨5, ji11, (-1)⟩ : S54) [.int .i64 5, .int .i64 ji11, .int .i64 (-1)] from (k54_mkM _ _ _ (⟨5, ji11, (-1)⟩ : S54) )) (Reps.c3 (show Kd.M k54 _ _ _ (⟨6, ji13, (-1)⟩ : S54) [.int .i64 6, .int .i64 ji13, .int .i64 (-1)] from (k54_mkM _ _ _ (⟨6, ji13, (-1)⟩ : S54) )) (Reps.none _ _))))
     intro v148 w42 ho43 hb hg_ hnew_
     clear hg_ hnew_
     (first | rw [← Ny147.out] at ho43 | (simp only [Int.reduceToNat] at ho43; rw [← Ny147.out] at ho43))
     have n0_ := Aside0.mk (Kd.R_elder' au11 (Kd.R_base ho43) hb)
     have n1_ := Aside0.mk (Kd.R_elder' (by (with_reducible repeat (first | apply Kd.R_alloc | apply Kd.R_drewN | apply Kd.R_drew)); exact HO143.out) (Kd.R_base ho43) hb)
     have n2_ := Aside0.mk (Kd.R_lower (Kd.R_newB (Kd.R_newB (Kd.R_new' (Kd.R_new' ho43 (Kd.R_lt au11)) (Kd.R_lt (by (with_reducible repeat (first | apply Kd.R_alloc | apply Kd.R_drewN | apply Kd.R_drew)); exact HO143.out))) (g := gb138) (o := .cells #[.int .i64 5, .int .i64 ji11, .int .i64 (-1)] 54 (0, 0)) au2) (g := gb140) (o := .cells #[.int .i64 6, .int .i64 ji13, .int .i64 (-1)] 54 (0, 0)) au1) (below_size au3))
     have n3_ := Aside0.mk (blk_below (g := gb136) (o := .cells #[.int .i64 t130, .int .i64 t131, .int .i64 t132, .int .i64 t133] 26 (0, 0)) au5 hb)
     have n4_ := Aside0.mk (blk_below (g := gb138) (o := .cells #[.int .i64 5, .int .i64 ji11, .int .i64 (-1)] 54 (0, 0)) au2 hb)
     have n5_ := Aside0.mk (blk_below (g := gb140) (o := .cells #[.int .i64 6, .int .i64 ji13, .int .i64 (-1)] 54 (0, 0)) au1 hb)
     have n6_ := Aside0.mk (below_step au3 hb)
     clear HO129
     clear HO143
     clear BK136
     clear BK138
     clear BK140
     clear HB
     have HO129 := n0_
     have HO143 := n1_
     have HO149 := n2_
     have BK136 := n3_
     have BK138 := n4_
     have BK140 := n5_
     have HB := n6_
     clear n0_ n1_ n2_ n3_ n4_ n5_ n6_
     clear hb ho43
     refine hK.out _ _ ⟨(blk_cell BK138.out 0).trans rfl, (blk_cell BK138.out 1).trans rfl, (blk_cell BK138.out 2).trans rfl, (blk_cell BK140.out 0).trans rfl, (blk_cell BK140.out 1).trans rfl, (blk_cell BK140.out 2).trans rfl⟩ (fun hHeld => ?_)
     clear hK K
     refine norm_ (a' := ?_) ?_ ?_
     rotate_left
     · show Act.put _ (some 64) _ = _
       simp only [Act.put, List.setIfInBounds_toArray, List.set_cons_zero, List.set_cons_succ, i64_w, i32_w]
       rfl
     refine one_ (i := 2) (N := some 61) #[true, true, true, true, true, true, false, false] rfl rfl (one_of HT_.out au28) (by decide) (fun K hK => ?_)
     refine Kd.R_append_rows_step k54 (w0 := w) w.heap.size (by rfl) (.tmp 59) (.tmp 60) 24 54 (.agg #[(.int .i64 0), (.int .i64 0), (.int .i64 0)]) 24 rfl Try.underlying24 info54 rfl (by decide) (by omega) v142 y141 t127 _ _ _ (fun k_ => some k_ ≠ (.slice Ao20 t127.length co20 : Value).ownBlock ∧ some k_ ≠ (v148 : Value).ownBlock ∧ k_ ≠ gb138 ∧ k_ ≠ gb140) (fun _ => False) rfl rfl ?aO ?aR (fun _ _ h => h) (fun _ h => h.elim) ?aF ?aB ?aS ?aL ?_
     (case aR => repeat (first | exact (Kd.R_reads' HO129.out).2.2 | (with_reducible refine Kd.C_alloc ?_ _) | (with_reducible refine Kd.C_drewN ?_ _) | (with_reducible refine Kd.C_drew ?_)))
     (case aB => exact au3)
     (case aF => exact (fun k_ hk => ⟨Kd.fresh' (Kd.R_lt au11) k_ hk, Kd.fresh' (Kd.R_lt (by (with_reducible repeat (first | apply Kd.R_alloc | apply Kd.R_drewN | apply Kd.R_drew)); exact HO149.out)) k_ hk, Kd.freshB (g := gb138) (o := .cells #[.int .i64 5, .int .i64 ji11, .int .i64 (-1)] 54 (0, 0)) au2 k_ hk, Kd.freshB (g := gb140) (o := .cells #[.int .i64 6, .int .i64 ji13, .int .i64 (-1)] 54 (0, 0)) au1 k_ hk⟩))
     (case aO => exact (by (with_reducible repeat (first | apply Kd.R_alloc | apply Kd.R_drewN | apply Kd.R_drew)); exact Kd.R_mono HO143.out (fun _ hk => ⟨hk.1.1.1.2, ⟨hk.2, ⟨hk.1.1.2, hk.1.2⟩⟩⟩)))
     (case aS => exact (below_size au3))
     (case aL => have := LMc14.out; omega)
     intro v145 w44 ho hb hg hat
     rw [← Ny144.out] at ho
     have n0_ := Aside0.mk (Kd.R_after (ok := (fun k_ => some k_ ≠ (v148 : Value).ownBlock ∧ k_ ≠ gb138 ∧ k_ ≠ gb140)) (by (with_reducible repeat (first | apply Kd.R_alloc | apply Kd.R_drewN | apply Kd.R_drew)); exact Kd.R_mono HO129.out (fun _ hk => ⟨⟨hk.2, ⟨hk.1.1.1, hk.1.1.2⟩⟩, hk.1.2⟩)) hg hat)
     have n1_ := Aside0.mk (blk_grown (g := gb136) (o := .cells #[.int .i64 t130, .int .i64 t131, .int .i64 t132, .int .i64 t133] 26 (0, 0)) au5 hg (Kd.R_ne HO143.out BK136.out (by decide)))
     have n2_ := Aside0.mk (blk_grown (g := gb138) (o := .cells #[.int .i64 5, .int .i64 ji11, .int .i64 (-1)] 54 (0, 0)) au2 hg (Kd.R_away HO143.out (fun _ hk => hk.1.1.2)))
     have n3_ := Aside0.mk (blk_grown (g := gb140) (o := .cells #[.int .i64 6, .int .i64 ji13, .int .i64 (-1)] 54 (0, 0)) au1 hg (Kd.R_away HO143.out (fun _ hk => hk.1.2)))
     have n4_ := Aside0.mk (Kd.R_after (ok := (fun k_ => some k_ ≠ (.slice Ao20 t127.length co20 : Value).ownBlock ∧ k_ ≠ gb138 ∧ k_ ≠ gb140)) (by (with_reducible repeat (first | apply Kd.R_alloc | apply Kd.R_drewN | apply Kd.R_drew)); exact Kd.R_mono HO149.out (fun _ hk => ⟨⟨hk.1.1.1.2, ⟨hk.1.2, hk.2⟩⟩, hk.1.1.2⟩)) hg hat)
     have n5_ := Aside0.mk (hb)
     have n6_ := Aside0.mk (ho)
     clear HO129
     clear BK136
     clear BK138
     clear BK140
     clear HO149
     clear HB
     clear HO143
     have HO129 := n0_
     have BK136 := n1_
     have BK138 := n2_
     have BK140 := n3_
     have HO149 := n4_
     have HB := n5_
     have HO146 := n6_
     clear n0_ n1_ n2_ n3_ n4_ n5_ n6_
     clear ho hb hg hat
     refine hK.out _ _ ⟨(blk_cell BK138.out 0).trans rfl, (blk_cell BK138.out 1).trans rfl, (blk_cell BK138.out 2).trans rfl, (blk_cell BK140.out 0).trans rfl, (blk_cell BK140.out 1).trans rfl, (blk_cell BK140.out 2).trans rfl⟩ (fun hHeld => ?_)
     clear hK K
     refine norm_ (a' := ?_) ?_ ?_
     rotate_left
     · show Act.put _ (some 61) _ = _
       simp only [Act.put, List.setIfInBounds_toArray, List.set_cons_zero, List.set_cons_succ, i64_w, i32_w]
       rfl
     exact norm_ au25 (hCont (v142, v145, v148) _ ⟨hHeld, (by (with_reducible repeat (first | apply Kd.R_alloc | apply Kd.R_drewN | apply Kd.R_drew)); exact Kd.R_mono HO129.out (fun _ hk => ⟨hk.2, ⟨hk.1.1, ⟨hk.1.2.1, hk.1.2.2⟩⟩⟩)), (by (with_reducible repeat (first | apply Kd.R_alloc | apply Kd.R_drewN | apply Kd.R_drew)); exact HO146.out), (by (with_reducible repeat (first | apply Kd.R_alloc | apply Kd.R_drewN | apply Kd.R_drew)); exact Kd.R_mono HO149.out (fun _ hk => ⟨hk.1.1, ⟨hk.2, ⟨hk.1.2.1, hk.1.2.2⟩⟩⟩)), au5, au2, au1, au3⟩)
   skip
   refine Kd.R_lit_step k54 _ 54 ?hg (N := 64) ?hd (xs := ([(⟨5, ji11, (-1)⟩ : S54), (⟨6, ji13, (-1)⟩ : S54)] : List (S54))) (inner := [.int .i64 5, .int .i64 ji11, .int .i64 (-1), .int .i64 6, .int .i64 ji13, .int .i64 (-1)]) (ok := fun _ => True) (okp := fun _ => True) ?hr ?hp (fun _ hk => hk) trivial (Below.refl _ _) (Nat.le_refl _) (by simp) ?_; (case hd => rfl); (case hg => rfl); (case hr => first | (go_simp; done) | (go_simp; rfl)); (case hp => exact (Reps.c3 (show Kd.M k54 _ _ _ (⟨5, ji11, (-1)⟩ : S54) [.int .i64 5, .int .i64 ji11, .int .i64 (-1)] from (k54_mkM _ _ _ (⟨5, ji11, (-1)⟩ : S54) )) (Reps.c3 (show Kd.M k54 _ _ _ (⟨6, ji13, (-1)⟩ : S54) [.int .i64 6, .int .i64 ji13, .int .i64 (-1)] from (k54_mkM _ _ _ (⟨6, ji13, (-1)⟩ : S54) )) (Reps.none _ _))))
   intro v148 w40 ho41 hb hg_ hnew_
   clear hg_ hnew_
   (first | rw [← Ny147.out] at ho41 | (simp only [Int.reduceToNat] at ho41; rw [← Ny147.out] at ho41))
   have n0_ := Aside0.mk (Kd.R_elder' au11 (Kd.R_base ho41) hb)
   have n1_ := Aside0.mk (Kd.R_lower (Kd.R_newB (Kd.R_newB (Kd.R_new' ho41 (Kd.R_lt au11)) (g := gb138) (o := .cells #[.int .i64 5, .int .i64 ji11, .int .i64 (-1)] 54 (0, 0)) au2) (g := gb140) (o := .cells #[.int .i64 6, .int .i64 ji13, .int .i64 (-1)] 54 (0, 0)) au1) (below_size au3))
   have n2_ := Aside0.mk (blk_below (g := gb136) (o := .cells #[.int .i64 t130, .int .i64 t131, .int .i64 t132, .int .i64 t133] 26 (0, 0)) au5 hb)
   have n3_ := Aside0.mk (blk_below (g := gb138) (o := .cells #[.int .i64 5, .int .i64 ji11, .int .i64 (-1)] 54 (0, 0)) au2 hb)
   have n4_ := Aside0.mk (blk_below (g := gb140) (o := .cells #[.int .i64 6, .int .i64 ji13, .int .i64 (-1)] 54 (0, 0)) au1 hb)
   have n5_ := Aside0.mk (below_step au3 hb)
   clear HO129
   clear BK136
   clear BK138
   clear BK140
   clear HB
   have HO129 := n0_
   have HO149 := n1_
   have BK136 := n2_
   have BK138 := n3_
   have BK140 := n4_
   have HB := n5_
   clear n0_ n1_ n2_ n3_ n4_ n5_
   clear hb ho41
   refine hK.out _ _ ⟨(blk_cell BK138.out 0).trans rfl, (blk_cell BK138.out 1).trans rfl, (blk_cell BK138.out 2).trans rfl, (blk_cell BK140.out 0).trans rfl, (blk_cell BK140.out 1).trans rfl, (blk_cell BK140.out 2).trans rfl⟩ (fun hHeld => ?_)
   clear hK K
   refine norm_ (a' := ?_) ?_ ?_
   rotate_left
   · show Act.put _ (some 64) _ = _
     simp only [Act.put, List.setIfInBounds_toArray, List.set_cons_zero, List.set_cons_succ, i64_w, i32_w]
     rfl
   refine one_ (i := 0) (N := some 59) #[true, true, false, true, true, true, false, false] rfl rfl (one_of HT_.out au28) (by decide) (fun K hK => ?_)
   refine Kd.R_lit_step k54 _ 54 ?hg (N := 59) ?hd (xs := ([] : List (S54))) (inner := []) (ok := fun _ => True) (okp := fun _ => True) ?hr ?hp (fun _ hk => hk) trivial (Below.refl _ _) (Nat.le_refl _) (by simp) ?_; (case hd => rfl); (case hg => rfl); (case hr => first | (go_simp; done) | (go_simp; rfl)); (case hp => exact (Reps.none _ _))
   intro v142 w42 ho43 hb hg_ hnew_
   clear hg_ hnew_
   (first | rw [← Ny141.out] at ho43 | (simp only [Int.reduceToNat] at ho43; rw [← Ny141.out] at ho43))
   have n0_ := Aside0.mk (Kd.R_elder' au11 (Kd.R_base ho43) hb)
   have n1_ := Aside0.mk (Kd.R_elder' (by (with_reducible repeat (first | apply Kd.R_alloc | apply Kd.R_drewN | apply Kd.R_drew)); exact HO149.out) (Kd.R_base ho43) hb)
   have n2_ := Aside0.mk (Kd.R_lower (Kd.R_newB (Kd.R_newB (Kd.R_new' (Kd.R_new' ho43 (Kd.R_lt au11)) (Kd.R_lt (by (with_reducible repeat (first | apply Kd.R_alloc | apply Kd.R_drewN | apply Kd.R_drew)); exact HO149.out))) (g := gb138) (o := .cells #[.int .i64 5, .int .i64 ji11, .int .i64 (-1)] 54 (0, 0)) au2) (g := gb140) (o := .cells #[.int .i64 6, .int .i64 ji13, .int .i64 (-1)] 54 (0, 0)) au1) (below_size au3))
   have n3_ := Aside0.mk (blk_below (g := gb136) (o := .cells #[.int .i64 t130, .int .i64 t131, .int .i64 t132, .int .i64 t133] 26 (0, 0)) au5 hb)
   have n4_ := Aside0.mk (blk_below (g := gb138) (o := .cells #[.int .i64 5, .int .i64 ji11, .int .i64 (-1)] 54 (0, 0)) au2 hb)
   have n5_ := Aside0.mk (blk_below (g := gb140) (o := .cells #[.int .i64 6, .int .i64 ji13, .int .i64 (-1)] 54 (0, 0)) au1 hb)
   have n6_ := Aside0.mk (below_step au3 hb)
   clear HO129
   clear HO149
   clear BK136
   clear BK138
   clear BK140
   clear HB
   have HO129 := n0_
   have HO149 := n1_
   have HO143 := n2_
   have BK136 := n3_
   have BK138 := n4_
   have BK140 := n5_
   have HB := n6_
   clear n0_ n1_ n2_ n3_ n4_ n5_ n6_
   clear hb ho43
   refine hK.out _ _ ⟨(blk_cell BK138.out 0).trans rfl, (blk_cell BK138.out 1).trans rfl, (blk_cell BK138.out 2).trans rfl, (blk_cell BK140.out 0).trans rfl, (blk_cell BK140.out 1).trans rfl, (blk_cell BK140.out 2).trans rfl⟩ (fun hHeld => ?_)
   clear hK K
   refine norm_ (a' := ?_) ?_ ?_
   rotate_left
   · show Act.put _ (some 59) _ = _
     simp only [Act.put, List.setIfInBounds_toArray, List.set_cons_zero, List.set_cons_succ, i64_w, i32_w]
     rfl
   refine one_ (i := 2) (N := some 61) #[true, true, true, true, true, true, false, false] rfl rfl (one_of HT_.out au28) (by decide) (fun K hK => ?_)
   refine Kd.R_append_rows_step k54 (w0 := w) w.heap.size (by rfl) (.tmp 59) (.tmp 60) 24 54 (.agg #[(.int .i64 0), (.int .i64 0), (.int .i64 0)]) 24 rfl Try.underlying24 info54 rfl (by decide) (by omega) v142 y141 t127 _ _ _ (fun k_ => some k_ ≠ (.slice Ao20 t127.length co20 : Value).ownBlock ∧ some k_ ≠ (v148 : Value).ownBlock ∧ k_ ≠ gb138 ∧ k_ ≠ gb140) (fun _ => False) rfl rfl ?aO ?aR (fun _ _ h => h) (fun _ h => h.elim) ?aF ?aB ?aS ?aL ?_
   (case aR => repeat (first | exact (Kd.R_reads' HO129.out).2.2 | (with_reducible refine Kd.C_alloc ?_ _) | (with_reducible refine Kd.C_drewN ?_ _) | (with_reducible refine Kd.C_drew ?_)))
   (case aB => exact au3)
   (case aF => exact (fun k_ hk => ⟨Kd.fresh' (Kd.R_lt au11) k_ hk, Kd.fresh' (Kd.R_lt (by (with_reducible repeat (first | apply Kd.R_alloc | apply Kd.R_drewN | apply Kd.R_drew)); exact HO149.out)) k_ hk, Kd.freshB (g := gb138) (o := .cells #[.int .i64 5, .int .i64 ji11, .int .i64 (-1)] 54 (0, 0)) au2 k_ hk, Kd.freshB (g := gb140) (o := .cells #[.int .i64 6, .int .i64 ji13, .int .i64 (-1)] 54 (0, 0)) au1 k_ hk⟩))
   (case aO => exact (by (with_reducible repeat (first | apply Kd.R_alloc | apply Kd.R_drewN | apply Kd.R_drew)); exact Kd.R_mono HO143.out (fun _ hk => ⟨hk.1.1.1.2, ⟨hk.1.1.2, ⟨hk.1.2, hk.2⟩⟩⟩)))
   (case aS => exact (below_size au3))
   (case aL => have := LMc14.out; omega)
   intro v145 w44 ho hb hg hat
   rw [← Ny144.out] at ho
   have n0_ := Aside0.mk (Kd.R_after (ok := (fun k_ => some k_ ≠ (v148 : Value).ownBlock ∧ k_ ≠ gb138 ∧ k_ ≠ gb140)) (by (with_reducible repeat (first | apply Kd.R_alloc | apply Kd.R_drewN | apply Kd.R_drew)); exact Kd.R_mono HO129.out (fun _ hk => ⟨⟨hk.1.2, ⟨hk.1.1.1, hk.1.1.2⟩⟩, hk.2⟩)) hg hat)
   have n1_ := Aside0.mk (blk_grown (g := gb136) (o := .cells #[.int .i64 t130, .int .i64 t131, .int .i64 t132, .int .i64 t133] 26 (0, 0)) au5 hg (Kd.R_ne HO143.out BK136.out (by decide)))
   have n2_ := Aside0.mk (blk_grown (g := gb138) (o := .cells #[.int .i64 5, .int .i64 ji11, .int .i64 (-1)] 54 (0, 0)) au2 hg (Kd.R_away HO143.out (fun _ hk => hk.1.2)))
   have n3_ := Aside0.mk (blk_grown (g := gb140) (o := .cells #[.int .i64 6, .int .i64 ji13, .int .i64 (-1)] 54 (0, 0)) au1 hg (Kd.R_away HO143.out (fun _ hk => hk.2)))
   have n4_ := Aside0.mk (Kd.R_after (ok := (fun k_ => some k_ ≠ (.slice Ao20 t127.length co20 : Value).ownBlock ∧ k_ ≠ gb138 ∧ k_ ≠ gb140)) (by (with_reducible repeat (first | apply Kd.R_alloc | apply Kd.R_drewN | apply Kd.R_drew)); exact Kd.R_mono HO149.out (fun _ hk => ⟨⟨hk.1.1.1.2, ⟨hk.1.1.2, hk.1.2⟩⟩, hk.2⟩)) hg hat)
   have n5_ := Aside0.mk (hb)
   have n6_ := Aside0.mk (ho)
   clear HO129
   clear BK136
   clear BK138
   clear BK140
   clear HO149
   clear HB
   clear HO143
   have HO129 := n0_
   have BK136 := n1_
   have BK138 := n2_
   have BK140 := n3_
   have HO149 := n4_
   have HB := n5_
   have HO146 := n6_
   clear n0_ n1_ n2_ n3_ n4_ n5_ n6_
   clear ho hb hg hat
   refine hK.out _ _ ⟨(blk_cell BK138.out 0).trans rfl, (blk_cell BK138.out 1).trans rfl, (blk_cell BK138.out 2).trans rfl, (blk_cell BK140.out 0).trans rfl, (blk_cell BK140.out 1).trans rfl, (blk_cell BK140.out 2).trans rfl⟩ (fun hHeld => ?_)
   clear hK K
   refine norm_ (a' := ?_) ?_ ?_
   rotate_left
   · show Act.put _ (some 61) _ = _
     simp only [Act.put, List.setIfInBounds_toArray, List.set_cons_zero, List.set_cons_succ, i64_w, i32_w]
     rfl
   exact norm_ au25 (hCont (v142, v145, v148) _ ⟨hHeld, (by (with_reducible repeat (first | apply Kd.R_alloc | apply Kd.R_drewN | apply Kd.R_drew)); exact Kd.R_mono HO129.out (fun _ hk => ⟨hk.2, ⟨hk.1.1, ⟨hk.1.2.1, hk.1.2.2⟩⟩⟩)), (by (with_reducible repeat (first | apply Kd.R_alloc | apply Kd.R_drewN | apply Kd.R_drew)); exact HO146.out), (by (with_reducible repeat (first | apply Kd.R_alloc | apply Kd.R_drewN | apply Kd.R_drew)); exact Kd.R_mono HO149.out (fun _ hk => ⟨hk.1.1, ⟨hk.2, ⟨hk.1.2.1, hk.1.2.2⟩⟩⟩)), au5, au2, au1, au3⟩)
 rintro ⟨v142, v145, v148⟩ w45 ⟨hS_, h0_, h1_, h2_, h3_, h4_, h5_, h6_⟩
 have n0_ : Aside0 (Kd.R k54 54 w45 w.heap.size (fun k_ => some k_ ≠ (v145 : Value).ownBlock ∧ some k_ ≠ (v148 : Value).ownBlock ∧ k_ ≠ gb138 ∧ k_ ≠ gb140) (.slice Ao20 t127.length co20) t127) := ⟨h0_⟩
 have n1_ : Aside0 (Kd.R k54 54 w45 w.heap.size (fun k_ => some k_ ≠ (.slice Ao20 t127.length co20 : Value).ownBlock ∧ some k_ ≠ (v148 : Value).ownBlock ∧ k_ ≠ gb138 ∧ k_ ≠ gb140) v145 y144) := ⟨h1_⟩
 have n2_ : Aside0 (Kd.R k54 54 w45 w.heap.size (fun k_ => some k_ ≠ (.slice Ao20 t127.length co20 : Value).ownBlock ∧ some k_ ≠ (v145 : Value).ownBlock ∧ k_ ≠ gb138 ∧ k_ ≠ gb140) v148 y147) := ⟨h2_⟩
 have n3_ : Aside0 (w45.heap[gb136]? = some (.cells #[.int .i64 t130, .int .i64 t131, .int .i64 t132, .int .i64 t133] 26 (0, 0))) := ⟨h3_⟩
 have n4_ : Aside0 (w45.heap[gb138]? = some (.cells #[.int .i64 5, .int .i64 ji11, .int .i64 (-1)] 54 (0, 0))) := ⟨h4_⟩
 have n5_ : Aside0 (w45.heap[gb140]? = some (.cells #[.int .i64 6, .int .i64 ji13, .int .i64 (-1)] 54 (0, 0))) := ⟨h5_⟩
 have n6_ : Aside0 (Below w.heap.size w w45) := ⟨h6_⟩
 clear HO129
 clear BK136
 clear BK138
 clear BK140
 clear HB
 clear h0_ h1_ h2_ h3_ h4_ h5_ h6_
 have HO129 := n0_
 have HO146 := n1_
 have HO149 := n2_
 have BK136 := n3_
 have BK138 := n4_
 have BK140 := n5_
 have HB := n6_
 clear n0_ n1_ n2_ n3_ n4_ n5_ n6_
 have hHeld : w45.cell? ⟨gb138, 0, none⟩ = some (.int .i64 5) ∧ w45.cell? ⟨gb138, 1, none⟩ = some (.int .i64 ji11) ∧ w45.cell? ⟨gb138, 2, none⟩ = some (.int .i64 (-1)) ∧ w45.cell? ⟨gb140, 0, none⟩ = some (.int .i64 6) ∧ w45.cell? ⟨gb140, 1, none⟩ = some (.int .i64 ji13) ∧ w45.cell? ⟨gb140, 2, none⟩ = some (.int .i64 (-1)) := hS_
 obtain ⟨Ao47, co47, eo47⟩ := Kd.R_slice HO149.out
 (first | subst eo47 | (injection eo47 with f1_ f2_ f3_; have f4_ := f1_.symm; have f5_ := f3_.symm; clear f1_ f2_ f3_; subst f4_; subst f5_))
 refine norm_ (a' := ?_) ?_ ?_
 rotate_left
 · simp only [putAll, Act.put, List.setIfInBounds_toArray, List.set_cons_zero, List.set_cons_succ]
   rfl
 refine one_ (i := 6) (N := some 65) #[true, true, true, true, true, true, true, false] rfl rfl (one_of HT_.out au28) (by decide) (fun K hK => ?_)
 refine Kd.R_append_rows_step k54 (w0 := w) w.heap.size (by rfl) (.tmp 61) (.tmp 64) 24 54 (.agg #[(.int .i64 0), (.int .i64 0), (.int .i64 0)]) 24 rfl Try.underlying24 info54 rfl (by decide) (by omega) v145 y144 y147 _ _ _ (fun k_ => some k_ ≠ (.slice Ao20 t127.length co20 : Value).ownBlock ∧ some k_ ≠ (.slice Ao47 y147.length co47 : Value).ownBlock ∧ k_ ≠ gb138 ∧ k_ ≠ gb140) (fun _ => False) rfl rfl ?aO ?aR (fun _ _ h => h) (fun _ h => h.elim) ?aF ?aB ?aS ?aL ?_
 (case aR => repeat (first | exact (Kd.R_reads' HO149.out).2.2 | (with_reducible refine Kd.C_alloc ?_ _) | (with_reducible refine Kd.C_drewN ?_ _) | (with_reducible refine Kd.C_drew ?_)))
 (case aB => exact au3)
 (case aF => exact (fun k_ hk => ⟨Kd.fresh' (Kd.R_lt au11) k_ hk, Kd.fresh' (Kd.R_lt (by (with_reducible repeat (first | apply Kd.R_alloc | apply Kd.R_drewN | apply Kd.R_drew)); exact HO149.out)) k_ hk, Kd.freshB (g := gb138) (o := .cells #[.int .i64 5, .int .i64 ji11, .int .i64 (-1)] 54 (0, 0)) au2 k_ hk, Kd.freshB (g := gb140) (o := .cells #[.int .i64 6, .int .i64 ji13, .int .i64 (-1)] 54 (0, 0)) au1 k_ hk⟩))
 (case aO => exact (by (with_reducible repeat (first | apply Kd.R_alloc | apply Kd.R_drewN | apply Kd.R_drew)); exact HO146.out))
 (case aS => exact (below_size au3))
 (case aL => have := LMc15.out; omega)
 intro v151 w46 ho hb hg hat
 rw [← Ny150.out] at ho
 have n0_ := Aside0.mk (Kd.R_after (ok := (fun k_ => some k_ ≠ (.slice Ao47 y147.length co47 : Value).ownBlock ∧ k_ ≠ gb138 ∧ k_ ≠ gb140)) (by (with_reducible repeat (first | apply Kd.R_alloc | apply Kd.R_drewN | apply Kd.R_drew)); exact Kd.R_mono HO129.out (fun _ hk => ⟨⟨hk.2.1, ⟨hk.2.2.1, hk.2.2.2⟩⟩, hk.1⟩)) hg hat)
 have n1_ := Aside0.mk (blk_grown (g := gb136) (o := .cells #[.int .i64 t130, .int .i64 t131, .int .i64 t132, .int .i64 t133] 26 (0, 0)) au5 hg (Kd.R_ne HO146.out BK136.out (by decide)))
 have n2_ := Aside0.mk (blk_grown (g := gb138) (o := .cells #[.int .i64 5, .int .i64 ji11, .int .i64 (-1)] 54 (0, 0)) au2 hg (Kd.R_away HO146.out (fun _ hk => hk.2.2.1)))
 have n3_ := Aside0.mk (blk_grown (g := gb140) (o := .cells #[.int .i64 6, .int .i64 ji13, .int .i64 (-1)] 54 (0, 0)) au1 hg (Kd.R_away HO146.out (fun _ hk => hk.2.2.2)))
 have n4_ := Aside0.mk (Kd.R_after (ok := (fun k_ => some k_ ≠ (.slice Ao20 t127.length co20 : Value).ownBlock ∧ k_ ≠ gb138 ∧ k_ ≠ gb140)) (by (with_reducible repeat (first | apply Kd.R_alloc | apply Kd.R_drewN | apply Kd.R_drew)); exact Kd.R_mono HO149.out (fun _ hk => ⟨⟨hk.1, ⟨hk.2.2.1, hk.2.2.2⟩⟩, hk.2.1⟩)) hg hat)
 have n5_ := Aside0.mk (hb)
 have n6_ := Aside0.mk (ho)
 clear HO129
 clear BK136
 clear BK138
 clear BK140
 clear HO149
 clear HB
 clear HO146
 have HO129 := n0_
 have BK136 := n1_
 have BK138 := n2_
 have BK140 := n3_
 have HO149 := n4_
 have HB := n5_
 have HO152 := n6_
 clear n0_ n1_ n2_ n3_ n4_ n5_ n6_
 clear ho hb hg hat
 refine hK.out _ _ ⟨(blk_cell BK138.out 0).trans rfl, (blk_cell BK138.out 1).trans rfl, (blk_cell BK138.out 2).trans rfl, (blk_cell BK140.out 0).trans rfl, (blk_cell BK140.out 1).trans rfl, (blk_cell BK140.out 2).trans rfl⟩ (fun hHeld => ?_)
 clear hK K
 refine norm_ (a' := ?_) ?_ ?_
 rotate_left
 · show Act.put _ (some 65) _ = _
   simp only [Act.put, List.setIfInBounds_toArray, List.set_cons_zero, List.set_cons_succ, i64_w, i32_w]
   rfl
 refine pure_ (i := 7) (N := some 15) (v := ?_) (a' := ?_) #[true, true, true, true, true, true, true, true] rfl rfl (any_of HT_.out au28) (fun _ _ _ h => h) (Or.inl ⟨by rfl, ?_⟩) ?_ ?_
 rotate_left
 · intro w'
   go_simp
   with_reducible rfl
 rotate_left
 · simp only [Act.put, List.setIfInBounds_toArray, List.set_cons_zero, List.set_cons_succ, i64_w, i32_w]
   rfl
 refine done_ (done_of HT_.out au28) ?_
 obtain ⟨Ao48, co48, eo48⟩ := Kd.R_slice HO152.out
 subst eo48
 go_upto_region 11 with (first | ((with_reducible refine gate_callee (f := 17) rfl ?_); refine goesL_ (some 68) rfl rfl Try.func17 au28 rfl #[.slice Ao48 y150.length co48] rfl au12 ?_; (with_reducible refine (life_Run.calls _ _ y150 t153 t154 t155 t156 t157 t158 _ ?side1 ?side2 A16.out).mono ?_); (case side1 => repeat (first | exact (Kd.R_reads' HO152.out).2.2 | (with_reducible refine Kd.C_alloc ?_ _) | (with_reducible refine Kd.C_drewN ?_ _) | (with_reducible refine Kd.C_drew ?_))); (case side2 => exact (Kd.R_reads' HO152.out).2.1); rintro e w49 ⟨rfl, hb⟩; refine ⟨_, rfl, ?_⟩; have n0_ := Aside0.mk (Kd.R_below au11 hb); have n1_ := Aside0.mk (Kd.R_below (by (with_reducible repeat (first | apply Kd.R_alloc | apply Kd.R_drewN | apply Kd.R_drew)); exact HO149.out) hb); have n2_ := Aside0.mk (Kd.R_below (by (with_reducible repeat (first | apply Kd.R_alloc | apply Kd.R_drewN | apply Kd.R_drew)); exact HO152.out) hb); have n3_ := Aside0.mk (blk_below (g := gb136) (o := .cells #[.int .i64 t130, .int .i64 t131, .int .i64 t132, .int .i64 t133] 26 (0, 0)) au5 hb); have n4_ := Aside0.mk (blk_below (g := gb138) (o := .cells #[.int .i64 5, .int .i64 ji11, .int .i64 (-1)] 54 (0, 0)) au2 hb); have n5_ := Aside0.mk (blk_below (g := gb140) (o := .cells #[.int .i64 6, .int .i64 ji13, .int .i64 (-1)] 54 (0, 0)) au1 hb); have n6_ := Aside0.mk (below_step au3 hb); clear HO129; clear HO149; clear HO152; clear BK136; clear BK138; clear BK140; clear HB; have HO129 := n0_; have HO149 := n1_; have HO152 := n2_; have BK136 := n3_; have BK138 := n4_; have BK140 := n5_; have HB := n6_; clear n0_ n1_ n2_ n3_ n4_ n5_ n6_; (try clear hb); (try clear hb2); (try clear hk); (try clear hi)) | ((with_reducible refine gate_dst (N := 16) rfl ?_); (try (refine gate_guard (by rfl) ?_; dsimp only)); refine box_event ?hg (N := 16) ?hd (cs := #[.int .i64 0, .int .i64 0, .int .i64 0, .int .i64 0]) (t := 26) ?hr ?_; (case hd => rfl); (case hg => rfl); (case hr => first | (go_simp; done) | (go_simp; rfl)); intro gb159 hg w50 hbox hb; have n0_ := Aside0.mk (Kd.R_below au11 hb); have n1_ := Aside0.mk (Kd.R_below (by (with_reducible repeat (first | apply Kd.R_alloc | apply Kd.R_drewN | apply Kd.R_drew)); exact HO149.out) hb); have n2_ := Aside0.mk (Kd.R_below (by (with_reducible repeat (first | apply Kd.R_alloc | apply Kd.R_drewN | apply Kd.R_drew)); exact HO152.out) hb); have n3_ := Aside0.mk (blk_below (g := gb136) (o := .cells #[.int .i64 t130, .int .i64 t131, .int .i64 t132, .int .i64 t133] 26 (0, 0)) au5 hb); have n4_ := Aside0.mk (blk_below (g := gb138) (o := .cells #[.int .i64 5, .int .i64 ji11, .int .i64 (-1)] 54 (0, 0)) au2 hb); have n5_ := Aside0.mk (blk_below (g := gb140) (o := .cells #[.int .i64 6, .int .i64 ji13, .int .i64 (-1)] 54 (0, 0)) au1 hb); have n6_ := Aside0.mk (below_step au3 hb); have n7_ := Aside0.mk (hbox); have n8_ := Aside0.mk ((by rw [hg]; exact (below_size au3) : w.heap.size ≤ gb159)); have n9_ := Aside0.mk ((by rw [hg]; exact (below_size au3) : w.heap.size ≤ gb159)); have n10_ := Aside0.mk ((by rw [hg]; exact Nat.ne_of_lt (blk_lt (g := gb136) (o := .cells #[.int .i64 t130, .int .i64 t131, .int .i64 t132, .int .i64 t133] 26 (0, 0)) au5) : gb136 ≠ gb159)); have n11_ := Aside0.mk ((by rw [hg]; exact Nat.ne_of_gt (blk_lt (g := gb136) (o := .cells #[.int .i64 t130, .int .i64 t131, .int .i64 t132, .int .i64 t133] 26 (0, 0)) au5) : gb159 ≠ gb136)); have n12_ := Aside0.mk ((by rw [hg]; exact Nat.ne_of_lt (blk_lt (g := gb138) (o := .cells #[.int .i64 5, .int .i64 ji11, .int .i64 (-1)] 54 (0, 0)) au2) : gb138 ≠ gb159)); have n13_ := Aside0.mk ((by rw [hg]; exact Nat.ne_of_gt (blk_lt (g := gb138) (o := .cells #[.int .i64 5, .int .i64 ji11, .int .i64 (-1)] 54 (0, 0)) au2) : gb159 ≠ gb138)); have n14_ := Aside0.mk ((by rw [hg]; exact Nat.ne_of_lt (blk_lt (g := gb140) (o := .cells #[.int .i64 6, .int .i64 ji13, .int .i64 (-1)] 54 (0, 0)) au1) : gb140 ≠ gb159)); have n15_ := Aside0.mk ((by rw [hg]; exact Nat.ne_of_gt (blk_lt (g := gb140) (o := .cells #[.int .i64 6, .int .i64 ji13, .int .i64 (-1)] 54 (0, 0)) au1) : gb159 ≠ gb140)); clear HO129; clear HO149; clear HO152; clear BK136; clear BK138; clear BK140; clear HB; have HO129 := n0_; have HO149 := n1_; have HO152 := n2_; have BK136 := n3_; have BK138 := n4_; have BK140 := n5_; have HB := n6_; have BK159 := n7_; have GW159 := n8_; have GE159 := n9_; have NB136_159 := n10_; have NB159_136 := n11_; have NB138_159 := n12_; have NB159_138 := n13_; have NB140_159 := n14_; have NB159_140 := n15_; clear n0_ n1_ n2_ n3_ n4_ n5_ n6_ n7_ n8_ n9_ n10_ n11_ n12_ n13_ n14_ n15_; clear hb hbox hg; have hnb51 := NB159_136.out; have hnc51 := NB136_159.out; have hnb52 := NB159_138.out; have hnc52 := NB138_159.out; have hnb53 := NB159_140.out; have hnc53 := NB140_159.out; have hcz54_0 : w50.cell? ⟨gb159, 0, none⟩ = some (.int .i64 0) := (blk_cell BK159.out 0).trans rfl; have hcz54_1 : w50.cell? ⟨gb159, 1, none⟩ = some (.int .i64 0) := (blk_cell BK159.out 1).trans rfl; have hcz54_2 : w50.cell? ⟨gb159, 2, none⟩ = some (.int .i64 0) := (blk_cell BK159.out 2).trans rfl; have hcz54_3 : w50.cell? ⟨gb159, 3, none⟩ = some (.int .i64 0) := (blk_cell BK159.out 3).trans rfl; have hfz54_0 := blk_frozen BK159.out 0; have hfz54_1 := blk_frozen BK159.out 1; have hfz54_2 := blk_frozen BK159.out 2; have hfz54_3 := blk_frozen BK159.out 3))
 (try simp only [Act.put, List.setIfInBounds_toArray, List.set_cons_zero, List.set_cons_succ])
 go_cut [79] (fun v79 wc => ∃ (kq : Nat) (x79_16 : Bool), v79 = .bool x79_16 ∧ Aside0 (dialtonelaw14_LifeRestores.j0 kq a3 t127 y150 t157 t158 x79_16 t130 t131 t132 t133 5 ji11 (-1) 6 ji13 (-1) t153 t154 t155 t156 = some r) ∧ Aside0 (kq ≤ k) ∧ Aside0 (Kd.R k54 54 wc w.heap.size (fun k_ => some k_ ≠ ((.slice Ao48 y150.length co48) : Value).ownBlock ∧ k_ ≠ gb138 ∧ k_ ≠ gb140) (.slice Ao20 t127.length co20) t127) ∧ Aside0 (Kd.R k54 54 wc w.heap.size (fun k_ => some k_ ≠ ((.slice Ao20 t127.length co20) : Value).ownBlock ∧ k_ ≠ gb138 ∧ k_ ≠ gb140) (.slice Ao48 y150.length co48) y150) ∧ Aside0 (wc.heap[gb136]? = some (.cells #[.int .i64 t130, .int .i64 t131, .int .i64 t132, .int .i64 t133] 26 (0, 0))) ∧ Aside0 (wc.heap[gb138]? = some (.cells #[.int .i64 5, .int .i64 ji11, .int .i64 (-1)] 54 (0, 0))) ∧ Aside0 (wc.heap[gb140]? = some (.cells #[.int .i64 6, .int .i64 ji13, .int .i64 (-1)] 54 (0, 0))) ∧ Aside0 (wc.heap[gb159]? = some (.cells #[.int .i64 t153, .int .i64 t154, .int .i64 t155, .int .i64 t156] 26 (0, 0))) ∧ Aside0 (Below w.heap.size w wc))
 case first =>
  have H := HC17.out
  clear HC17
  by_cases c55 : t130 = 1
  rotate_left
  · rw [if_neg c55] at H
    have c55b0 : (t130 == 1) = false := beq_eq_false_iff_ne.mpr c55
    have c55b1 : (t130 != 1) = true := bne_iff_ne.mpr c55
    (first | rw [c55b0] | (simp only [i64_w, i32_w]; rw [c55b0]) | rw [c55b1] | skip)
    have H' := Aside0.mk H
    clear H
    have hnb60 := NB136_138.out
    have hnc60 := NB138_136.out
    have hnb61 := NB136_140.out
    have hnc61 := NB140_136.out
    have hnb62 := NB136_159.out
    have hnc62 := NB159_136.out
    have hcz63_0 : w50.cell? ⟨gb136, 0, none⟩ = some (.int .i64 t130) := (blk_cell BK136.out 0).trans rfl
    have hcz63_1 : w50.cell? ⟨gb136, 1, none⟩ = some (.int .i64 t131) := (blk_cell BK136.out 1).trans rfl
    have hcz63_2 : w50.cell? ⟨gb136, 2, none⟩ = some (.int .i64 t132) := (blk_cell BK136.out 2).trans rfl
    have hcz63_3 : w50.cell? ⟨gb136, 3, none⟩ = some (.int .i64 t133) := (blk_cell BK136.out 3).trans rfl
    have hfz63_0 := blk_frozen BK136.out 0
    have hfz63_1 := blk_frozen BK136.out 1
    have hfz63_2 := blk_frozen BK136.out 2
    have hfz63_3 := blk_frozen BK136.out 3
    go_wp2
    go_meet
    case rel => exact ⟨_, ((t130 != 2)), (by first | rfl | (simp; done) | (simp [*]; done)), H', ⟨by first | omega | exact Nat.le_refl _⟩, ⟨by (with_reducible repeat (first | apply Kd.R_alloc | apply Kd.R_drewN | apply Kd.R_drew)); exact Kd.R_mono (Kd.R_far (p := ⟨gb159, 3, none⟩) (Kd.R_far (p := ⟨gb159, 2, none⟩) (Kd.R_far (p := ⟨gb159, 1, none⟩) (Kd.R_far (p := ⟨gb159, 0, none⟩) (Kd.R_types HO129.out BK159.out (by decide)) (fun _ hk => hk.2) (.int .i64 t153)) (fun _ hk => hk.2) (.int .i64 t154)) (fun _ hk => hk.2) (.int .i64 t155)) (fun _ hk => hk.2) (.int .i64 t156)) (fun _ hk => ⟨hk.1.2, ⟨hk.1.1.2.1, hk.1.1.2.2⟩⟩)⟩, ⟨by (with_reducible repeat (first | apply Kd.R_alloc | apply Kd.R_drewN | apply Kd.R_drew)); exact Kd.R_mono (Kd.R_far (p := ⟨gb159, 3, none⟩) (Kd.R_far (p := ⟨gb159, 2, none⟩) (Kd.R_far (p := ⟨gb159, 1, none⟩) (Kd.R_far (p := ⟨gb159, 0, none⟩) (Kd.R_types HO152.out BK159.out (by decide)) (fun _ hk => hk.2) (.int .i64 t153)) (fun _ hk => hk.2) (.int .i64 t154)) (fun _ hk => hk.2) (.int .i64 t155)) (fun _ hk => hk.2) (.int .i64 t156)) (fun _ hk => ⟨hk.1.1, ⟨hk.1.2.2.1, hk.1.2.2.2⟩⟩)⟩, ⟨by (with_reducible repeat (first | refine blk_drewN ?_ _ | refine blk_drew ?_ | refine blk_alloc ?_ _)); refine blk_far ?_ NB136_159.out _; (with_reducible repeat (first | refine blk_drewN ?_ _ | refine blk_drew ?_ | refine blk_alloc ?_ _)); refine blk_far ?_ NB136_159.out _; (with_reducible repeat (first | refine blk_drewN ?_ _ | refine blk_drew ?_ | refine blk_alloc ?_ _)); refine blk_far ?_ NB136_159.out _; (with_reducible repeat (first | refine blk_drewN ?_ _ | refine blk_drew ?_ | refine blk_alloc ?_ _)); refine blk_far ?_ NB136_159.out _; (with_reducible repeat (first | refine blk_drewN ?_ _ | refine blk_drew ?_ | refine blk_alloc ?_ _)); exact BK136.out⟩, ⟨by (with_reducible repeat (first | refine blk_drewN ?_ _ | refine blk_drew ?_ | refine blk_alloc ?_ _)); refine blk_far ?_ NB138_159.out _; (with_reducible repeat (first | refine blk_drewN ?_ _ | refine blk_drew ?_ | refine blk_alloc ?_ _)); refine blk_far ?_ NB138_159.out _; (with_reducible repeat (first | refine blk_drewN ?_ _ | refine blk_drew ?_ | refine blk_alloc ?_ _)); refine blk_far ?_ NB138_159.out _; (with_reducible repeat (first | refine blk_drewN ?_ _ | refine blk_drew ?_ | refine blk_alloc ?_ _)); refine blk_far ?_ NB138_159.out _; (with_reducible repeat (first | refine blk_drewN ?_ _ | refine blk_drew ?_ | refine blk_alloc ?_ _)); exact BK138.out⟩, ⟨by (with_reducible repeat (first | refine blk_drewN ?_ _ | refine blk_drew ?_ | refine blk_alloc ?_ _)); refine blk_far ?_ NB140_159.out _; (with_reducible repeat (first | refine blk_drewN ?_ _ | refine blk_drew ?_ | refine blk_alloc ?_ _)); refine blk_far ?_ NB140_159.out _; (with_reducible repeat (first | refine blk_drewN ?_ _ | refine blk_drew ?_ | refine blk_alloc ?_ _)); refine blk_far ?_ NB140_159.out _; (with_reducible repeat (first | refine blk_drewN ?_ _ | refine blk_drew ?_ | refine blk_alloc ?_ _)); refine blk_far ?_ NB140_159.out _; (with_reducible repeat (first | refine blk_drewN ?_ _ | refine blk_drew ?_ | refine blk_alloc ?_ _)); exact BK140.out⟩, ⟨by (with_reducible repeat (first | refine blk_drewN ?_ _ | refine blk_drew ?_ | refine blk_alloc ?_ _)); refine blk_put (cs := #[.int .i64 t153, .int .i64 t154, .int .i64 t155, .int .i64 0]) ?_ 3 _ rfl; (with_reducible repeat (first | refine blk_drewN ?_ _ | refine blk_drew ?_ | refine blk_alloc ?_ _)); refine blk_put (cs := #[.int .i64 t153, .int .i64 t154, .int .i64 0, .int .i64 0]) ?_ 2 _ rfl; (with_reducible repeat (first | refine blk_drewN ?_ _ | refine blk_drew ?_ | refine blk_alloc ?_ _)); refine blk_put (cs := #[.int .i64 t153, .int .i64 0, .int .i64 0, .int .i64 0]) ?_ 1 _ rfl; (with_reducible repeat (first | refine blk_drewN ?_ _ | refine blk_drew ?_ | refine blk_alloc ?_ _)); refine blk_put (cs := #[.int .i64 0, .int .i64 0, .int .i64 0, .int .i64 0]) ?_ 0 _ rfl; (with_reducible repeat (first | refine blk_drewN ?_ _ | refine blk_drew ?_ | refine blk_alloc ?_ _)); exact BK159.out⟩, ⟨by repeat (first | (with_reducible first | exact HB.out | apply below_alloc | apply pw_below_drewN | apply below_drew1 | refine below_set ?_ GE136.out | refine below_set ?_ GE138.out | refine below_set ?_ GE140.out | refine below_set ?_ GE159.out) | exact HB.out)⟩⟩
  rw [if_pos c55] at H
  have c55b0 : (t130 == 1) = true := beq_iff_eq.mpr c55
  have c55b1 : (t130 != 1) = false := bne_eq_false_iff_eq.mpr c55
  clear c55
  (first | rw [c55b0] | (simp only [i64_w, i32_w]; rw [c55b0]) | rw [c55b1] | skip)
  have H' := Aside0.mk H
  clear H
  have hnb56 := NB136_138.out
  have hnc56 := NB138_136.out
  have hnb57 := NB136_140.out
  have hnc57 := NB140_136.out
  have hnb58 := NB136_159.out
  have hnc58 := NB159_136.out
  have hcz59_0 : w50.cell? ⟨gb136, 0, none⟩ = some (.int .i64 t130) := (blk_cell BK136.out 0).trans rfl
  have hcz59_1 : w50.cell? ⟨gb136, 1, none⟩ = some (.int .i64 t131) := (blk_cell BK136.out 1).trans rfl
  have hcz59_2 : w50.cell? ⟨gb136, 2, none⟩ = some (.int .i64 t132) := (blk_cell BK136.out 2).trans rfl
  have hcz59_3 : w50.cell? ⟨gb136, 3, none⟩ = some (.int .i64 t133) := (blk_cell BK136.out 3).trans rfl
  have hfz59_0 := blk_frozen BK136.out 0
  have hfz59_1 := blk_frozen BK136.out 1
  have hfz59_2 := blk_frozen BK136.out 2
  have hfz59_3 := blk_frozen BK136.out 3
  go_wp2
  go_meet
  case rel => exact ⟨_, (false), (by first | rfl | (simp; done) | (simp [*]; done)), H', ⟨by first | omega | exact Nat.le_refl _⟩, ⟨by (with_reducible repeat (first | apply Kd.R_alloc | apply Kd.R_drewN | apply Kd.R_drew)); exact Kd.R_mono (Kd.R_far (p := ⟨gb159, 3, none⟩) (Kd.R_far (p := ⟨gb159, 2, none⟩) (Kd.R_far (p := ⟨gb159, 1, none⟩) (Kd.R_far (p := ⟨gb159, 0, none⟩) (Kd.R_types HO129.out BK159.out (by decide)) (fun _ hk => hk.2) (.int .i64 t153)) (fun _ hk => hk.2) (.int .i64 t154)) (fun _ hk => hk.2) (.int .i64 t155)) (fun _ hk => hk.2) (.int .i64 t156)) (fun _ hk => ⟨hk.1.2, ⟨hk.1.1.2.1, hk.1.1.2.2⟩⟩)⟩, ⟨by (with_reducible repeat (first | apply Kd.R_alloc | apply Kd.R_drewN | apply Kd.R_drew)); exact Kd.R_mono (Kd.R_far (p := ⟨gb159, 3, none⟩) (Kd.R_far (p := ⟨gb159, 2, none⟩) (Kd.R_far (p := ⟨gb159, 1, none⟩) (Kd.R_far (p := ⟨gb159, 0, none⟩) (Kd.R_types HO152.out BK159.out (by decide)) (fun _ hk => hk.2) (.int .i64 t153)) (fun _ hk => hk.2) (.int .i64 t154)) (fun _ hk => hk.2) (.int .i64 t155)) (fun _ hk => hk.2) (.int .i64 t156)) (fun _ hk => ⟨hk.1.1, ⟨hk.1.2.2.1, hk.1.2.2.2⟩⟩)⟩, ⟨by (with_reducible repeat (first | refine blk_drewN ?_ _ | refine blk_drew ?_ | refine blk_alloc ?_ _)); refine blk_far ?_ NB136_159.out _; (with_reducible repeat (first | refine blk_drewN ?_ _ | refine blk_drew ?_ | refine blk_alloc ?_ _)); refine blk_far ?_ NB136_159.out _; (with_reducible repeat (first | refine blk_drewN ?_ _ | refine blk_drew ?_ | refine blk_alloc ?_ _)); refine blk_far ?_ NB136_159.out _; (with_reducible repeat (first | refine blk_drewN ?_ _ | refine blk_drew ?_ | refine blk_alloc ?_ _)); refine blk_far ?_ NB136_159.out _; (with_reducible repeat (first | refine blk_drewN ?_ _ | refine blk_drew ?_ | refine blk_alloc ?_ _)); exact BK136.out⟩, ⟨by (with_reducible repeat (first | refine blk_drewN ?_ _ | refine blk_drew ?_ | refine blk_alloc ?_ _)); refine blk_far ?_ NB138_159.out _; (with_reducible repeat (first | refine blk_drewN ?_ _ | refine blk_drew ?_ | refine blk_alloc ?_ _)); refine blk_far ?_ NB138_159.out _; (with_reducible repeat (first | refine blk_drewN ?_ _ | refine blk_drew ?_ | refine blk_alloc ?_ _)); refine blk_far ?_ NB138_159.out _; (with_reducible repeat (first | refine blk_drewN ?_ _ | refine blk_drew ?_ | refine blk_alloc ?_ _)); refine blk_far ?_ NB138_159.out _; (with_reducible repeat (first | refine blk_drewN ?_ _ | refine blk_drew ?_ | refine blk_alloc ?_ _)); exact BK138.out⟩, ⟨by (with_reducible repeat (first | refine blk_drewN ?_ _ | refine blk_drew ?_ | refine blk_alloc ?_ _)); refine blk_far ?_ NB140_159.out _; (with_reducible repeat (first | refine blk_drewN ?_ _ | refine blk_drew ?_ | refine blk_alloc ?_ _)); refine blk_far ?_ NB140_159.out _; (with_reducible repeat (first | refine blk_drewN ?_ _ | refine blk_drew ?_ | refine blk_alloc ?_ _)); refine blk_far ?_ NB140_159.out _; (with_reducible repeat (first | refine blk_drewN ?_ _ | refine blk_drew ?_ | refine blk_alloc ?_ _)); refine blk_far ?_ NB140_159.out _; (with_reducible repeat (first | refine blk_drewN ?_ _ | refine blk_drew ?_ | refine blk_alloc ?_ _)); exact BK140.out⟩, ⟨by (with_reducible repeat (first | refine blk_drewN ?_ _ | refine blk_drew ?_ | refine blk_alloc ?_ _)); refine blk_put (cs := #[.int .i64 t153, .int .i64 t154, .int .i64 t155, .int .i64 0]) ?_ 3 _ rfl; (with_reducible repeat (first | refine blk_drewN ?_ _ | refine blk_drew ?_ | refine blk_alloc ?_ _)); refine blk_put (cs := #[.int .i64 t153, .int .i64 t154, .int .i64 0, .int .i64 0]) ?_ 2 _ rfl; (with_reducible repeat (first | refine blk_drewN ?_ _ | refine blk_drew ?_ | refine blk_alloc ?_ _)); refine blk_put (cs := #[.int .i64 t153, .int .i64 0, .int .i64 0, .int .i64 0]) ?_ 1 _ rfl; (with_reducible repeat (first | refine blk_drewN ?_ _ | refine blk_drew ?_ | refine blk_alloc ?_ _)); refine blk_put (cs := #[.int .i64 0, .int .i64 0, .int .i64 0, .int .i64 0]) ?_ 0 _ rfl; (with_reducible repeat (first | refine blk_drewN ?_ _ | refine blk_drew ?_ | refine blk_alloc ?_ _)); exact BK159.out⟩, ⟨by repeat (first | (with_reducible first | exact HB.out | apply below_alloc | apply pw_below_drewN | apply below_drew1 | refine below_set ?_ GE136.out | refine below_set ?_ GE138.out | refine below_set ?_ GE140.out | refine below_set ?_ GE159.out) | exact HB.out)⟩⟩
 clear HC17
 try clear c1
 try clear c2
 try clear p2
 try clear c3
 try clear c5
 try clear c6
 try clear c14
 try clear c15
 try clear c17
 try clear c29
 try clear c51
 try clear c52
 try clear c53
 try clear c55
 try clear c55b0
 try clear c55b1
 try clear c56
 try clear c57
 try clear c58
 try clear c60
 try clear c61
 try clear c62
 try clear hcz54_0
 try clear hcz54_1
 try clear hcz54_2
 try clear hcz54_3
 try clear hcz59_0
 try clear hcz59_1
 try clear hcz59_2
 try clear hcz59_3
 try clear hcz63_0
 try clear hcz63_1
 try clear hcz63_2
 try clear hcz63_3
 try clear hfz54_0
 try clear hfz54_1
 try clear hfz54_2
 try clear hfz54_3
 try clear hfz59_0
 try clear hfz59_1
 try clear hfz59_2
 try clear hfz59_3
 try clear hfz63_0
 try clear hfz63_1
 try clear hfz63_2
 try clear hfz63_3
 rename_i zi0_ zi1_ zi2_ zi3_ zi4_ zi5_ zi6_ zi7_ zi8_ zi9_ zi10_ zi11_ zi12_ zi13_ zi14_ zi15_ zi16_ zi17_ zi18_
 revert hu26 hu54 hu28 HR0 HC0 A5 t127 A7 t130 t131 t132 t133 t134 t135 A8 c9b0 c9b1 t137 A10 ji11 hji11 hji11h hji11_ t139 A12 ji13 hji13 hji13_ y141
    Ny141 LMc14 y144 Ny144 y147 Ny147 LMc15 y150 Ny150 t153 t154 t155 t156 t157 t158 A16 zi0_ w18 w19 Ao20 co20 w21 gb136 w22 GW136 GE136 hcz23_0
    hcz23_1 hcz23_2 hcz23_3 hfz23_0 hfz23_1 hfz23_2 hfz23_3 w24 zi1_ zi2_ w25 zi3_ gb138 w27 zi4_ GW138 GE138 NB136_138 NB138_136 zi5_ hs28 hfs28
    hns28_0 hms28_0 hs29 hfs29 hns29_0 hms29_0 hs30 hfs30 hns30_0 hms30_0 zi6_ w31 zi7_ zi8_ w32 zi9_ gb140 w34 zi10_ GW140 GE140 NB136_140 NB140_136
    NB138_140 NB140_138 zi11_ hs35 hfs35 hns35_0 hns35_1 hms35_0 hms35_1 hs36 hfs36 hns36_0 hns36_1 hms36_0 hms36_1 hs37 hfs37 hns37_0 hns37_1 hms37_0
    hms37_1 zi12_ w38 HT_ HW_ w39 zi13_ v142 v145 w45 hS_ zi14_ Ao47 co47 w46 hHeld Ao48 co48 w49 gb159 w50 HO129 HO149 HO152 BK136 BK138 BK140 HB
    BK159 GW159 GE159 NB136_159 NB159_136 NB138_159 NB159_138 NB140_159 NB159_140 hnb51 hnc51 hnb52 hnc52 hnb53 hnc53 zi15_ zi16_ zi17_ zi18_ wc u27
    u30 u33 u34 u35 u36 u37 u38 u39 u40 u41 u42 u43 u44 u45 u46 u47 u48 u49 u50 u51 u52 u53 u54 u55 u56 u57 u58 u59 u60 u61 u62 u63 u64 u65 u66 u67 u68
    u69 u70 u71 u72 u73 u74 u75 u76 u77 u78 u79 u80 u81 u82 u83 u84 u85 u86 u87 u88 u89 u90 u91 u92 u93 u94 u95 u96 u97 u98 u99 u100 u101 u102 u103
    u104 u105 u106 u107 u108 u109 u110 u111 u112 u113 u114 u115 u116 u117 u118 u119 u120 u121 u122 u123 u124 u125 u126 u127 u128 u129 u130 u131 u132
    u133 u134 u135 u136 u137 u138 u139 u140 u141 u142 u143 u144 u145 u146 u147 u148 u149 u150 u151 u152 u153 u154 u155 u156 u157 u158 u159 u160 u161
    u162 u163 u164 u165 u166 u167 u168 u169 u170 u171 u172 u173 u174 u175 u176 u177 u178 u179 u180 u181 u182 u183 u184 u185 u186 u187 u188 u189 u190
    u191 u192 u193 u194 u195 u196 u197 u198 u199 hcut
 exact hSrest_.down

end Go.Proofs.Yteilkigdlkeiaaa.Q
