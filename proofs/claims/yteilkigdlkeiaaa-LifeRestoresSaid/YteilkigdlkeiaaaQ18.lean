/- Printed out of the translation by a program: functions and their contracts. -/
import Derived.Test.YteilkigdlkeiaaaQ17
namespace Go.Proofs.Yteilkigdlkeiaaa.Q
attribute [local go_sem] Go.Proofs.Yteilkigdlkeiaaa.St.cell_map Option.map_some
open Go.RowKit Go.Proofs.YteilkigdlkeiaaaW.PrintWords Go.Proofs.YteilkigdlkeiaaaW.PrintLast Go.Proofs.YteilkigdlkeiaaaW.PrintMore
attribute [local go_sem] max2_int min2_int max_two min_two max_three min_three max_four min_four   -- for this text's walks alone
set_option linter.unusedVariables false
set_option linter.unusedSimpArgs false

attribute [local go_sem high] eqA26
set_option maxHeartbeats 8000000 in
set_option maxRecDepth 100000 in
theorem dialtonelaw14_LifeRestores.part2 (k : Nat) (A0 : Option Addr) (c0 : Nat) (l0 : List (S23)) (a1 : Int) (a2 : Int) (a3 : Int) (r : Bool) (w : World) : (dialtonelaw14_LifeRestores.part1 k A0 c0 l0 a1 a2 a3 r w).val := by
 dsimp -zeta only [dialtonelaw14_LifeRestores.part1]
 intro hu26 hu54 hu28 HR0 HC0 A5 t127 A7 t130 t131 t132 t133 t134 t135 A8 c9b0 c9b1 t137 A10 ji11 hji11 hji11h hji11_ t139 A12 ji13 hji13 hji13_ y141
    Ny141 LMc14 y144 Ny144 y147 Ny147 LMc15 y150 Ny150 t153 t154 t155 t156 t157 t158 A16 zi0_ w18 w19 Ao20 co20 w21 gb136 w22 GW136 GE136 hcz23_0
    hcz23_1 hcz23_2 hcz23_3 hfz23_0 hfz23_1 hfz23_2 hfz23_3 w24 zi1_ zi2_ w25 zi3_ gb138 w27 zi4_ GW138 GE138 NB136_138 NB138_136 zi5_ hs28 hfs28
    hns28_0 hms28_0 hs29 hfs29 hns29_0 hms29_0 hs30 hfs30 hns30_0 hms30_0 zi6_ w31 zi7_ zi8_ w32 zi9_ gb140 w34 zi10_ GW140 GE140 NB136_140 NB140_136
    NB138_140 NB140_138 zi11_ hs35 hfs35 hns35_0 hns35_1 hms35_0 hms35_1 hs36 hfs36 hns36_0 hns36_1 hms36_0 hms36_1 hs37 hfs37 hns37_0 hns37_1 hms37_0
    hms37_1 zi12_ w38 HT_ HW_ w39 zi13_ v142 v145 w45 hS_ zi14_ Ao47 co47 w46 hHeld Ao48 co48 w49 gb159 w50 HO129 HO149 HO152 BK136 BK138 BK140 HB
    BK159 GW159 GE159 NB136_159 NB159_136 NB138_159 NB159_138 NB140_159 NB159_140 hnb51 hnc51 hnb52 hnc52 hnb53 hnc53 zi15_ zi16_ zi17_ zi18_ wc u27
    u30 u33 u34 u35 u36 u37 u38 u39 u40 u41 u42 u43 u44 u45 u46 u47 u48 u49 u50 u51 u52 u53 u54 u55 u56 u57 u58 u59 u60 u61 u62 u63 u64 u65 u66 u67 u68
    u69 u70 u71 u72 u73 u74 u75 u76 u77 u78 u79 u80 u81 u82 u83 u84 u85 u86 u87 u88 u89 u90 u91 u92 u93 u94 u95 u96 u97 u98 u99 u100 u101 u102 u103
    u104 u105 u106 u107 u108 u109 u110 u111 u112 u113 u114 u115 u116 u117 u118 u119 u120 u121 u122 u123 u124 u125 u126 u127 u128 u129 u130 u131 u132
    u133 u134 u135 u136 u137 u138 u139 u140 u141 u142 u143 u144 u145 u146 u147 u148 u149 u150 u151 u152 u153 u154 u155 u156 u157 u158 u159 u160 u161
    u162 u163 u164 u165 u166 u167 u168 u169 u170 u171 u172 u173 u174 u175 u176 u177 u178 u179 u180 u181 u182 u183 u184 u185 u186 u187 u188 u189 u190
    u191 u192 u193 u194 u195 u196 u197 u198 u199 hcut
 obtain ⟨kq, x79_16, rfl, HA, HJ16, HO_9, HO_15, BK136, BK138, BK140, BK159, HB⟩ := hcut
 obtain _ | kj16 := kq
 · exact absurd HA.out (by simp [dialtonelaw14_LifeRestores.j0])
 have H := HA.out
 clear HA
 simp only [dialtonelaw14_LifeRestores.j0] at H
 by_cases c64 : x79_16 = true
 · subst c64
   have H1 : (if t158 = 140 then (some (t157 == (t127.length : Int))) else (some false)) = some r := by rw [if_pos rfl] at H; exact H
   clear H
   have H := H1
   clear H1
   by_cases c65 : t158 = 140
   rotate_left
   · rw [if_neg c65] at H
     have c65b0 : (t158 == 140) = false := beq_eq_false_iff_ne.mpr c65
     have c65b1 : (t158 != 140) = true := bne_iff_ne.mpr c65
     obtain rfl := Option.some.inj H
     go_wp2
     go_ret
     exact ⟨by first | rfl | (simp [errW_none, errW_some] <;> rfl) | (simp only [← hji11, ← hji13]; first | rfl | (simp [errW_none, errW_some] <;> rfl)) | (simp [*, errW_none, errW_some] <;> rfl), by repeat (first | (with_reducible first | exact HB.out | apply below_alloc | apply pw_below_drewN | apply below_drew1 | refine below_set ?_ GE136.out | refine below_set ?_ GE138.out | refine below_set ?_ GE140.out | refine below_set ?_ GE159.out) | exact HB.out)⟩
   rw [if_pos c65] at H
   have c65b0 : (t158 == 140) = true := beq_iff_eq.mpr c65
   have c65b1 : (t158 != 140) = false := bne_eq_false_iff_eq.mpr c65
   clear c65
   obtain rfl := Option.some.inj H
   go_wp2
   go_ret
   exact ⟨by first | rfl | (simp [errW_none, errW_some] <;> rfl) | (simp only [← hji11, ← hji13]; first | rfl | (simp [errW_none, errW_some] <;> rfl)) | (simp [*, errW_none, errW_some] <;> rfl), by repeat (first | (with_reducible first | exact HB.out | apply below_alloc | apply pw_below_drewN | apply below_drew1 | refine below_set ?_ GE136.out | refine below_set ?_ GE138.out | refine below_set ?_ GE140.out | refine below_set ?_ GE159.out) | exact HB.out)⟩
 replace c64 := Bool.eq_false_iff.mpr c64
 subst c64
 have H1 : (if t158 = 0 then (dialtonelaw14_LifeRestores.j1 kj16 a3 t127 y150 (!(t153 == 1) || (!(t154 == t131) || (!(t155 == t132) || (!(t156 == ji13))))) t130 t131 t132 t133 5 ji11 (-1) 6 ji13 (-1)) else (dialtonelaw14_LifeRestores.j1 kj16 a3 t127 y150 true t130 t131 t132 t133 5 ji11 (-1) 6 ji13 (-1))) = some r := by rw [if_neg (show ¬ (false = true) by decide)] at H; exact H
 clear H
 have H := H1
 clear H1
 have HC66 := Aside0.mk H
 clear H
 have hnb67 := NB136_138.out
 have hnc67 := NB138_136.out
 have hnb68 := NB136_140.out
 have hnc68 := NB140_136.out
 have hnb69 := NB136_159.out
 have hnc69 := NB159_136.out
 have hcz70_0 : wc.cell? ⟨gb136, 0, none⟩ = some (.int .i64 t130) := (blk_cell BK136.out 0).trans rfl
 have hcz70_1 : wc.cell? ⟨gb136, 1, none⟩ = some (.int .i64 t131) := (blk_cell BK136.out 1).trans rfl
 have hcz70_2 : wc.cell? ⟨gb136, 2, none⟩ = some (.int .i64 t132) := (blk_cell BK136.out 2).trans rfl
 have hcz70_3 : wc.cell? ⟨gb136, 3, none⟩ = some (.int .i64 t133) := (blk_cell BK136.out 3).trans rfl
 have hfz70_0 := blk_frozen BK136.out 0
 have hfz70_1 := blk_frozen BK136.out 1
 have hfz70_2 := blk_frozen BK136.out 2
 have hfz70_3 := blk_frozen BK136.out 3
 go_upto_region 16 with (first | ((with_reducible refine gate_dst (N := 19) rfl ?_); (try (refine gate_guard (by rfl) ?_; dsimp only)); refine box_event ?hg (N := 19) ?hd (cs := #[.int .i64 0, .int .i64 0, .int .i64 0, .int .i64 0]) (t := 26) ?hr ?_; (case hd => rfl); (case hg => rfl); (case hr => first | (go_simp; done) | (go_simp; rfl)); intro gb160 hg w71 hbox hb; have n0_ := Aside0.mk (Kd.R_below au8 hb); have n1_ := Aside0.mk (Kd.R_below au26 hb); have n2_ := Aside0.mk (blk_below (g := gb136) (o := .cells #[.int .i64 t130, .int .i64 t131, .int .i64 t132, .int .i64 t133] 26 (0, 0)) au5 hb); have n3_ := Aside0.mk (blk_below (g := gb138) (o := .cells #[.int .i64 5, .int .i64 ji11, .int .i64 (-1)] 54 (0, 0)) au2 hb); have n4_ := Aside0.mk (blk_below (g := gb140) (o := .cells #[.int .i64 6, .int .i64 ji13, .int .i64 (-1)] 54 (0, 0)) au1 hb); have n5_ := Aside0.mk (blk_below (g := gb159) (o := .cells #[.int .i64 t153, .int .i64 t154, .int .i64 t155, .int .i64 t156] 26 (0, 0)) (by (with_reducible repeat (first | refine blk_drewN ?_ _ | refine blk_drew ?_ | refine blk_alloc ?_ _)); exact BK159.out) hb); have n6_ := Aside0.mk (below_step (by repeat (first | (with_reducible first | exact HB.out | apply below_alloc | apply pw_below_drewN | apply below_drew1 | refine below_set ?_ GE136.out | refine below_set ?_ GE138.out | refine below_set ?_ GE140.out | refine below_set ?_ GE159.out) | exact HB.out)) hb); have n7_ := Aside0.mk (hbox); have n8_ := Aside0.mk ((by rw [hg]; exact (below_size (by repeat (first | (with_reducible first | exact HB.out | apply below_alloc | apply pw_below_drewN | apply below_drew1 | refine below_set ?_ GE136.out | refine below_set ?_ GE138.out | refine below_set ?_ GE140.out | refine below_set ?_ GE159.out) | exact HB.out))) : w.heap.size ≤ gb160)); have n9_ := Aside0.mk ((by rw [hg]; exact (below_size (by repeat (first | (with_reducible first | exact HB.out | apply below_alloc | apply pw_below_drewN | apply below_drew1 | refine below_set ?_ GE136.out | refine below_set ?_ GE138.out | refine below_set ?_ GE140.out | refine below_set ?_ GE159.out) | exact HB.out))) : w.heap.size ≤ gb160)); have n10_ := Aside0.mk ((by rw [hg]; exact Nat.ne_of_lt (blk_lt (g := gb136) (o := .cells #[.int .i64 t130, .int .i64 t131, .int .i64 t132, .int .i64 t133] 26 (0, 0)) au5) : gb136 ≠ gb160)); have n11_ := Aside0.mk ((by rw [hg]; exact Nat.ne_of_gt (blk_lt (g := gb136) (o := .cells #[.int .i64 t130, .int .i64 t131, .int .i64 t132, .int .i64 t133] 26 (0, 0)) au5) : gb160 ≠ gb136)); have n12_ := Aside0.mk ((by rw [hg]; exact Nat.ne_of_lt (blk_lt (g := gb138) (o := .cells #[.int .i64 5, .int .i64 ji11, .int .i64 (-1)] 54 (0, 0)) au2) : gb138 ≠ gb160)); have n13_ := Aside0.mk ((by rw [hg]; exact Nat.ne_of_gt (blk_lt (g := gb138) (o := .cells #[.int .i64 5, .int .i64 ji11, .int .i64 (-1)] 54 (0, 0)) au2) : gb160 ≠ gb138)); have n14_ := Aside0.mk ((by rw [hg]; exact Nat.ne_of_lt (blk_lt (g := gb140) (o := .cells #[.int .i64 6, .int .i64 ji13, .int .i64 (-1)] 54 (0, 0)) au1) : gb140 ≠ gb160)); have n15_ := Aside0.mk ((by rw [hg]; exact Nat.ne_of_gt (blk_lt (g := gb140) (o := .cells #[.int .i64 6, .int .i64 ji13, .int .i64 (-1)] 54 (0, 0)) au1) : gb160 ≠ gb140)); have n16_ := Aside0.mk ((by rw [hg]; exact Nat.ne_of_lt (blk_lt (g := gb159) (o := .cells #[.int .i64 t153, .int .i64 t154, .int .i64 t155, .int .i64 t156] 26 (0, 0)) (by (with_reducible repeat (first | refine blk_drewN ?_ _ | refine blk_drew ?_ | refine blk_alloc ?_ _)); exact BK159.out)) : gb159 ≠ gb160)); have n17_ := Aside0.mk ((by rw [hg]; exact Nat.ne_of_gt (blk_lt (g := gb159) (o := .cells #[.int .i64 t153, .int .i64 t154, .int .i64 t155, .int .i64 t156] 26 (0, 0)) (by (with_reducible repeat (first | refine blk_drewN ?_ _ | refine blk_drew ?_ | refine blk_alloc ?_ _)); exact BK159.out)) : gb160 ≠ gb159)); clear HO_9; clear HO_15; clear BK136; clear BK138; clear BK140; clear BK159; clear HB; have HO_9 := n0_; have HO_15 := n1_; have BK136 := n2_; have BK138 := n3_; have BK140 := n4_; have BK159 := n5_; have HB := n6_; have BK160 := n7_; have GW160 := n8_; have GE160 := n9_; have NB136_160 := n10_; have NB160_136 := n11_; have NB138_160 := n12_; have NB160_138 := n13_; have NB140_160 := n14_; have NB160_140 := n15_; have NB159_160 := n16_; have NB160_159 := n17_; clear n0_ n1_ n2_ n3_ n4_ n5_ n6_ n7_ n8_ n9_ n10_ n11_ n12_ n13_ n14_ n15_ n16_ n17_; clear hb hbox hg; have hnb72 := NB160_136.out; have hnc72 := NB136_160.out; have hnb73 := NB160_138.out; have hnc73 := NB138_160.out; have hnb74 := NB160_140.out; have hnc74 := NB140_160.out; have hnb75 := NB160_159.out; have hnc75 := NB159_160.out; have hcz76_0 : w71.cell? ⟨gb160, 0, none⟩ = some (.int .i64 0) := (blk_cell BK160.out 0).trans rfl; have hcz76_1 : w71.cell? ⟨gb160, 1, none⟩ = some (.int .i64 0) := (blk_cell BK160.out 1).trans rfl; have hcz76_2 : w71.cell? ⟨gb160, 2, none⟩ = some (.int .i64 0) := (blk_cell BK160.out 2).trans rfl; have hcz76_3 : w71.cell? ⟨gb160, 3, none⟩ = some (.int .i64 0) := (blk_cell BK160.out 3).trans rfl; have hfz76_0 := blk_frozen BK160.out 0; have hfz76_1 := blk_frozen BK160.out 1; have hfz76_2 := blk_frozen BK160.out 2; have hfz76_3 := blk_frozen BK160.out 3; have hnb77 := NB140_138.out; have hnc77 := NB138_140.out; have hnb78 := NB140_159.out; have hnc78 := NB159_140.out; have hcz79_0 : w71.cell? ⟨gb140, 0, none⟩ = some (.int .i64 6) := (blk_cell BK140.out 0).trans rfl; have hcz79_1 : w71.cell? ⟨gb140, 1, none⟩ = some (.int .i64 ji13) := (blk_cell BK140.out 1).trans rfl; have hcz79_2 : w71.cell? ⟨gb140, 2, none⟩ = some (.int .i64 (-1)) := (blk_cell BK140.out 2).trans rfl; have hfz79_0 := blk_frozen BK140.out 0; have hfz79_1 := blk_frozen BK140.out 1; have hfz79_2 := blk_frozen BK140.out 2))
 (try simp only [Act.put, List.setIfInBounds_toArray, List.set_cons_zero, List.set_cons_succ])
 go_cut [99] (fun v99 wc => ∃ (kq : Nat) (x99_65 : Bool), v99 = .bool x99_65 ∧ Aside0 (dialtonelaw14_LifeRestores.j1 kq a3 t127 y150 x99_65 t130 t131 t132 t133 5 ji11 (-1) 6 ji13 (-1) = some r) ∧ Aside0 (kq ≤ kj16) ∧ Aside0 (Kd.R k54 54 wc w.heap.size (fun k_ => some k_ ≠ ((.slice Ao48 y150.length co48) : Value).ownBlock ∧ k_ ≠ gb138 ∧ k_ ≠ gb140) (.slice Ao20 t127.length co20) t127) ∧ Aside0 (Kd.R k54 54 wc w.heap.size (fun k_ => some k_ ≠ ((.slice Ao20 t127.length co20) : Value).ownBlock ∧ k_ ≠ gb138 ∧ k_ ≠ gb140) (.slice Ao48 y150.length co48) y150) ∧ Aside0 (wc.heap[gb136]? = some (.cells #[.int .i64 t130, .int .i64 t131, .int .i64 t132, .int .i64 t133] 26 (0, 0))) ∧ Aside0 (wc.heap[gb138]? = some (.cells #[.int .i64 5, .int .i64 ji11, .int .i64 (-1)] 54 (0, 0))) ∧ Aside0 (wc.heap[gb140]? = some (.cells #[.int .i64 6, .int .i64 ji13, .int .i64 (-1)] 54 (0, 0))) ∧ Aside0 (Below w.heap.size w wc))
 case first =>
  have H := HC66.out
  clear HC66
  by_cases c80 : t158 = 0
  rotate_left
  · rw [if_neg c80] at H
    have c80b0 : (t158 == 0) = false := beq_eq_false_iff_ne.mpr c80
    have c80b1 : (t158 != 0) = true := bne_iff_ne.mpr c80
    (first | rw [c80b0] | (simp only [i64_w, i32_w]; rw [c80b0]) | rw [c80b1] | skip)
    have H' := Aside0.mk H
    clear H
    go_wp2
    go_meet
    case rel => exact ⟨_, (true), (by first | rfl | (simp; done) | (simp [*]; done)), H', ⟨by have := HJ16.out; first | omega | exact Nat.le_refl _⟩, ⟨by (with_reducible repeat (first | apply Kd.R_alloc | apply Kd.R_drewN | apply Kd.R_drew)); exact Kd.R_mono (Kd.R_far (p := ⟨gb160, 3, none⟩) (Kd.R_far (p := ⟨gb160, 0, none⟩) (Kd.R_far (p := ⟨gb160, 3, none⟩) (Kd.R_far (p := ⟨gb160, 2, none⟩) (Kd.R_far (p := ⟨gb160, 1, none⟩) (Kd.R_far (p := ⟨gb160, 0, none⟩) (Kd.R_types HO_9.out BK160.out (by decide)) (fun _ hk => hk.2) (.int .i64 t130)) (fun _ hk => hk.2) (.int .i64 t131)) (fun _ hk => hk.2) (.int .i64 t132)) (fun _ hk => hk.2) (.int .i64 t133)) (fun _ hk => hk.2) (.int .i64 1)) (fun _ hk => hk.2) (.int .i64 ji13)) (fun _ hk => ⟨hk.1.1, ⟨hk.1.2.1, hk.1.2.2⟩⟩)⟩, ⟨by (with_reducible repeat (first | apply Kd.R_alloc | apply Kd.R_drewN | apply Kd.R_drew)); exact Kd.R_mono (Kd.R_far (p := ⟨gb160, 3, none⟩) (Kd.R_far (p := ⟨gb160, 0, none⟩) (Kd.R_far (p := ⟨gb160, 3, none⟩) (Kd.R_far (p := ⟨gb160, 2, none⟩) (Kd.R_far (p := ⟨gb160, 1, none⟩) (Kd.R_far (p := ⟨gb160, 0, none⟩) (Kd.R_types HO_15.out BK160.out (by decide)) (fun _ hk => hk.2) (.int .i64 t130)) (fun _ hk => hk.2) (.int .i64 t131)) (fun _ hk => hk.2) (.int .i64 t132)) (fun _ hk => hk.2) (.int .i64 t133)) (fun _ hk => hk.2) (.int .i64 1)) (fun _ hk => hk.2) (.int .i64 ji13)) (fun _ hk => ⟨hk.1.1, ⟨hk.1.2.1, hk.1.2.2⟩⟩)⟩, ⟨by (with_reducible repeat (first | refine blk_drewN ?_ _ | refine blk_drew ?_ | refine blk_alloc ?_ _)); refine blk_far ?_ NB136_160.out _; (with_reducible repeat (first | refine blk_drewN ?_ _ | refine blk_drew ?_ | refine blk_alloc ?_ _)); refine blk_far ?_ NB136_160.out _; (with_reducible repeat (first | refine blk_drewN ?_ _ | refine blk_drew ?_ | refine blk_alloc ?_ _)); refine blk_far ?_ NB136_160.out _; (with_reducible repeat (first | refine blk_drewN ?_ _ | refine blk_drew ?_ | refine blk_alloc ?_ _)); refine blk_far ?_ NB136_160.out _; (with_reducible repeat (first | refine blk_drewN ?_ _ | refine blk_drew ?_ | refine blk_alloc ?_ _)); refine blk_far ?_ NB136_160.out _; (with_reducible repeat (first | refine blk_drewN ?_ _ | refine blk_drew ?_ | refine blk_alloc ?_ _)); refine blk_far ?_ NB136_160.out _; (with_reducible repeat (first | refine blk_drewN ?_ _ | refine blk_drew ?_ | refine blk_alloc ?_ _)); exact BK136.out⟩, ⟨by (with_reducible repeat (first | refine blk_drewN ?_ _ | refine blk_drew ?_ | refine blk_alloc ?_ _)); refine blk_far ?_ NB138_160.out _; (with_reducible repeat (first | refine blk_drewN ?_ _ | refine blk_drew ?_ | refine blk_alloc ?_ _)); refine blk_far ?_ NB138_160.out _; (with_reducible repeat (first | refine blk_drewN ?_ _ | refine blk_drew ?_ | refine blk_alloc ?_ _)); refine blk_far ?_ NB138_160.out _; (with_reducible repeat (first | refine blk_drewN ?_ _ | refine blk_drew ?_ | refine blk_alloc ?_ _)); refine blk_far ?_ NB138_160.out _; (with_reducible repeat (first | refine blk_drewN ?_ _ | refine blk_drew ?_ | refine blk_alloc ?_ _)); refine blk_far ?_ NB138_160.out _; (with_reducible repeat (first | refine blk_drewN ?_ _ | refine blk_drew ?_ | refine blk_alloc ?_ _)); refine blk_far ?_ NB138_160.out _; (with_reducible repeat (first | refine blk_drewN ?_ _ | refine blk_drew ?_ | refine blk_alloc ?_ _)); exact BK138.out⟩, ⟨by (with_reducible repeat (first | refine blk_drewN ?_ _ | refine blk_drew ?_ | refine blk_alloc ?_ _)); refine blk_far ?_ NB140_160.out _; (with_reducible repeat (first | refine blk_drewN ?_ _ | refine blk_drew ?_ | refine blk_alloc ?_ _)); refine blk_far ?_ NB140_160.out _; (with_reducible repeat (first | refine blk_drewN ?_ _ | refine blk_drew ?_ | refine blk_alloc ?_ _)); refine blk_far ?_ NB140_160.out _; (with_reducible repeat (first | refine blk_drewN ?_ _ | refine blk_drew ?_ | refine blk_alloc ?_ _)); refine blk_far ?_ NB140_160.out _; (with_reducible repeat (first | refine blk_drewN ?_ _ | refine blk_drew ?_ | refine blk_alloc ?_ _)); refine blk_far ?_ NB140_160.out _; (with_reducible repeat (first | refine blk_drewN ?_ _ | refine blk_drew ?_ | refine blk_alloc ?_ _)); refine blk_far ?_ NB140_160.out _; (with_reducible repeat (first | refine blk_drewN ?_ _ | refine blk_drew ?_ | refine blk_alloc ?_ _)); exact BK140.out⟩, ⟨by repeat (first | (with_reducible first | exact HB.out | apply below_alloc | apply pw_below_drewN | apply below_drew1 | refine below_set ?_ GE136.out | refine below_set ?_ GE138.out | refine below_set ?_ GE140.out | refine below_set ?_ GE159.out | refine below_set ?_ GE160.out) | exact HB.out)⟩⟩
  rw [if_pos c80] at H
  have c80b0 : (t158 == 0) = true := beq_iff_eq.mpr c80
  have c80b1 : (t158 != 0) = false := bne_eq_false_iff_eq.mpr c80
  clear c80
  (first | rw [c80b0] | (simp only [i64_w, i32_w]; rw [c80b0]) | rw [c80b1] | skip)
  have H' := Aside0.mk H
  clear H
  have hnb81 := NB159_136.out
  have hnc81 := NB136_159.out
  have hnb82 := NB159_138.out
  have hnc82 := NB138_159.out
  have hnb83 := NB159_140.out
  have hnc83 := NB140_159.out
  have hnb84 := NB159_160.out
  have hnc84 := NB160_159.out
  have hcz85_0 : w71.cell? ⟨gb159, 0, none⟩ = some (.int .i64 t153) := (blk_cell BK159.out 0).trans rfl
  have hcz85_1 : w71.cell? ⟨gb159, 1, none⟩ = some (.int .i64 t154) := (blk_cell BK159.out 1).trans rfl
  have hcz85_2 : w71.cell? ⟨gb159, 2, none⟩ = some (.int .i64 t155) := (blk_cell BK159.out 2).trans rfl
  have hcz85_3 : w71.cell? ⟨gb159, 3, none⟩ = some (.int .i64 t156) := (blk_cell BK159.out 3).trans rfl
  have hfz85_0 := blk_frozen BK159.out 0
  have hfz85_1 := blk_frozen BK159.out 1
  have hfz85_2 := blk_frozen BK159.out 2
  have hfz85_3 := blk_frozen BK159.out 3
  have hnb86 := NB160_136.out
  have hnc86 := NB136_160.out
  have hnb87 := NB160_138.out
  have hnc87 := NB138_160.out
  have hnb88 := NB160_140.out
  have hnc88 := NB140_160.out
  have hcz89_0 : w71.cell? ⟨gb160, 0, none⟩ = some (.int .i64 0) := (blk_cell BK160.out 0).trans rfl
  have hcz89_1 : w71.cell? ⟨gb160, 1, none⟩ = some (.int .i64 0) := (blk_cell BK160.out 1).trans rfl
  have hcz89_2 : w71.cell? ⟨gb160, 2, none⟩ = some (.int .i64 0) := (blk_cell BK160.out 2).trans rfl
  have hcz89_3 : w71.cell? ⟨gb160, 3, none⟩ = some (.int .i64 0) := (blk_cell BK160.out 3).trans rfl
  have hfz89_0 := blk_frozen BK160.out 0
  have hfz89_1 := blk_frozen BK160.out 1
  have hfz89_2 := blk_frozen BK160.out 2
  have hfz89_3 := blk_frozen BK160.out 3
  go_wp2
  go_meet
  case rel => exact ⟨_, ((!(t153 == 1) || (!(t154 == t131) || (!(t155 == t132) || (!(t156 == ji13)))))), (by first | rfl | (simp; done) | (simp only [← hji13] <;> (first | rfl | simp)) | (simp [*]; done)), H', ⟨by have := HJ16.out; first | omega | exact Nat.le_refl _⟩, ⟨by (with_reducible repeat (first | apply Kd.R_alloc | apply Kd.R_drewN | apply Kd.R_drew)); exact Kd.R_mono (Kd.R_far (p := ⟨gb160, 3, none⟩) (Kd.R_far (p := ⟨gb160, 0, none⟩) (Kd.R_far (p := ⟨gb160, 3, none⟩) (Kd.R_far (p := ⟨gb160, 2, none⟩) (Kd.R_far (p := ⟨gb160, 1, none⟩) (Kd.R_far (p := ⟨gb160, 0, none⟩) (Kd.R_types HO_9.out BK160.out (by decide)) (fun _ hk => hk.2) (.int .i64 t130)) (fun _ hk => hk.2) (.int .i64 t131)) (fun _ hk => hk.2) (.int .i64 t132)) (fun _ hk => hk.2) (.int .i64 t133)) (fun _ hk => hk.2) (.int .i64 1)) (fun _ hk => hk.2) (.int .i64 ji13)) (fun _ hk => ⟨hk.1.1, ⟨hk.1.2.1, hk.1.2.2⟩⟩)⟩, ⟨by (with_reducible repeat (first | apply Kd.R_alloc | apply Kd.R_drewN | apply Kd.R_drew)); exact Kd.R_mono (Kd.R_far (p := ⟨gb160, 3, none⟩) (Kd.R_far (p := ⟨gb160, 0, none⟩) (Kd.R_far (p := ⟨gb160, 3, none⟩) (Kd.R_far (p := ⟨gb160, 2, none⟩) (Kd.R_far (p := ⟨gb160, 1, none⟩) (Kd.R_far (p := ⟨gb160, 0, none⟩) (Kd.R_types HO_15.out BK160.out (by decide)) (fun _ hk => hk.2) (.int .i64 t130)) (fun _ hk => hk.2) (.int .i64 t131)) (fun _ hk => hk.2) (.int .i64 t132)) (fun _ hk => hk.2) (.int .i64 t133)) (fun _ hk => hk.2) (.int .i64 1)) (fun _ hk => hk.2) (.int .i64 ji13)) (fun _ hk => ⟨hk.1.1, ⟨hk.1.2.1, hk.1.2.2⟩⟩)⟩, ⟨by (with_reducible repeat (first | refine blk_drewN ?_ _ | refine blk_drew ?_ | refine blk_alloc ?_ _)); refine blk_far ?_ NB136_160.out _; (with_reducible repeat (first | refine blk_drewN ?_ _ | refine blk_drew ?_ | refine blk_alloc ?_ _)); refine blk_far ?_ NB136_160.out _; (with_reducible repeat (first | refine blk_drewN ?_ _ | refine blk_drew ?_ | refine blk_alloc ?_ _)); refine blk_far ?_ NB136_160.out _; (with_reducible repeat (first | refine blk_drewN ?_ _ | refine blk_drew ?_ | refine blk_alloc ?_ _)); refine blk_far ?_ NB136_160.out _; (with_reducible repeat (first | refine blk_drewN ?_ _ | refine blk_drew ?_ | refine blk_alloc ?_ _)); refine blk_far ?_ NB136_160.out _; (with_reducible repeat (first | refine blk_drewN ?_ _ | refine blk_drew ?_ | refine blk_alloc ?_ _)); refine blk_far ?_ NB136_160.out _; (with_reducible repeat (first | refine blk_drewN ?_ _ | refine blk_drew ?_ | refine blk_alloc ?_ _)); exact BK136.out⟩, ⟨by (with_reducible repeat (first | refine blk_drewN ?_ _ | refine blk_drew ?_ | refine blk_alloc ?_ _)); refine blk_far ?_ NB138_160.out _; (with_reducible repeat (first | refine blk_drewN ?_ _ | refine blk_drew ?_ | refine blk_alloc ?_ _)); refine blk_far ?_ NB138_160.out _; (with_reducible repeat (first | refine blk_drewN ?_ _ | refine blk_drew ?_ | refine blk_alloc ?_ _)); refine blk_far ?_ NB138_160.out _; (with_reducible repeat (first | refine blk_drewN ?_ _ | refine blk_drew ?_ | refine blk_alloc ?_ _)); refine blk_far ?_ NB138_160.out _; (with_reducible repeat (first | refine blk_drewN ?_ _ | refine blk_drew ?_ | refine blk_alloc ?_ _)); refine blk_far ?_ NB138_160.out _; (with_reducible repeat (first | refine blk_drewN ?_ _ | refine blk_drew ?_ | refine blk_alloc ?_ _)); refine blk_far ?_ NB138_160.out _; (with_reducible repeat (first | refine blk_drewN ?_ _ | refine blk_drew ?_ | refine blk_alloc ?_ _)); exact BK138.out⟩, ⟨by (with_reducible repeat (first | refine blk_drewN ?_ _ | refine blk_drew ?_ | refine blk_alloc ?_ _)); refine blk_far ?_ NB140_160.out _; (with_reducible repeat (first | refine blk_drewN ?_ _ | refine blk_drew ?_ | refine blk_alloc ?_ _)); refine blk_far ?_ NB140_160.out _; (with_reducible repeat (first | refine blk_drewN ?_ _ | refine blk_drew ?_ | refine blk_alloc ?_ _)); refine blk_far ?_ NB140_160.out _; (with_reducible repeat (first | refine blk_drewN ?_ _ | refine blk_drew ?_ | refine blk_alloc ?_ _)); refine blk_far ?_ NB140_160.out _; (with_reducible repeat (first | refine blk_drewN ?_ _ | refine blk_drew ?_ | refine blk_alloc ?_ _)); refine blk_far ?_ NB140_160.out _; (with_reducible repeat (first | refine blk_drewN ?_ _ | refine blk_drew ?_ | refine blk_alloc ?_ _)); refine blk_far ?_ NB140_160.out _; (with_reducible repeat (first | refine blk_drewN ?_ _ | refine blk_drew ?_ | refine blk_alloc ?_ _)); exact BK140.out⟩, ⟨by repeat (first | (with_reducible first | exact HB.out | apply below_alloc | apply pw_below_drewN | apply below_drew1 | refine below_set ?_ GE136.out | refine below_set ?_ GE138.out | refine below_set ?_ GE140.out | refine below_set ?_ GE159.out | refine below_set ?_ GE160.out) | exact HB.out)⟩⟩
 clear HC66
 try clear c1
 try clear c2
 try clear p2
 try clear c3
 try clear c5
 try clear c6
 try clear c7
 try clear c8
 try clear c14
 try clear c15
 try clear c17
 try clear c29
 try clear c51
 try clear c52
 try clear c53
 try clear c55
 try clear c55b0
 try clear c55b1
 try clear c56
 try clear c57
 try clear c58
 try clear c60
 try clear c61
 try clear c62
 try clear c64
 try clear c65
 try clear c65b0
 try clear c65b1
 try clear c67
 try clear c68
 try clear c69
 try clear c72
 try clear c73
 try clear c74
 try clear c75
 try clear c77
 try clear c78
 try clear c80
 try clear c80b0
 try clear c80b1
 try clear c81
 try clear c82
 try clear c83
 try clear c84
 try clear c86
 try clear c87
 try clear c88
 try clear hcz54_0
 try clear hcz54_1
 try clear hcz54_2
 try clear hcz54_3
 try clear hcz59_0
 try clear hcz59_1
 try clear hcz59_2
 try clear hcz59_3
 try clear hcz63_0
 try clear hcz63_1
 try clear hcz63_2
 try clear hcz63_3
 try clear hcz70_0
 try clear hcz70_1
 try clear hcz70_2
 try clear hcz70_3
 try clear hcz76_0
 try clear hcz76_1
 try clear hcz76_2
 try clear hcz76_3
 try clear hcz79_0
 try clear hcz79_1
 try clear hcz79_2
 try clear hcz85_0
 try clear hcz85_1
 try clear hcz85_2
 try clear hcz85_3
 try clear hcz89_0
 try clear hcz89_1
 try clear hcz89_2
 try clear hcz89_3
 try clear hfz54_0
 try clear hfz54_1
 try clear hfz54_2
 try clear hfz54_3
 try clear hfz59_0
 try clear hfz59_1
 try clear hfz59_2
 try clear hfz59_3
 try clear hfz63_0
 try clear hfz63_1
 try clear hfz63_2
 try clear hfz63_3
 try clear hfz70_0
 try clear hfz70_1
 try clear hfz70_2
 try clear hfz70_3
 try clear hfz76_0
 try clear hfz76_1
 try clear hfz76_2
 try clear hfz76_3
 try clear hfz79_0
 try clear hfz79_1
 try clear hfz79_2
 try clear hfz85_0
 try clear hfz85_1
 try clear hfz85_2
 try clear hfz85_3
 try clear hfz89_0
 try clear hfz89_1
 try clear hfz89_2
 try clear hfz89_3
 try clear p2
 obtain ⟨kq, x99_65, rfl, HA, HJ65, HO_9, HO_15, BK136, BK138, BK140, HB⟩ := hcut
 obtain _ | kj65 := kq
 · exact absurd HA.out (by simp [dialtonelaw14_LifeRestores.j1])
 have H := HA.out
 clear HA
 simp only [dialtonelaw14_LifeRestores.j1] at H
 by_cases c90 : x99_65 = true
 · subst c90
   have H1 : (some false) = some r := by rw [if_pos rfl] at H; exact H
   clear H
   have H := H1
   clear H1
   obtain rfl := Option.some.inj H
   go_wp2
   go_ret
   exact ⟨by first | rfl | (simp [errW_none, errW_some] <;> rfl) | (simp only [← hji11, ← hji13]; first | rfl | (simp [errW_none, errW_some] <;> rfl)) | (simp [*, errW_none, errW_some] <;> rfl), by repeat (first | (with_reducible first | exact HB.out | apply below_alloc | apply pw_below_drewN | apply below_drew1 | refine below_set ?_ GE136.out | refine below_set ?_ GE138.out | refine below_set ?_ GE140.out) | exact HB.out)⟩
 replace c90 := Bool.eq_false_iff.mpr c90
 subst c90
 have H1 : ((dialtoneref14_Time.f t127 a3).bind fun t161 => ((life_Keep.f t127 t161).bind fun bt162 => (if bt162.2.2 = 0 then (if bt162.1 = t132 then (dialtonelaw14_LifeRestores.j2 kj65 t127 y150 (decide (bt162.2.1 ≤ ji13)) t130 t131 t132 t133 5 ji11 (-1) 6 ji13 (-1) bt162.1 bt162.2.1) else (dialtonelaw14_LifeRestores.j2 kj65 t127 y150 false t130 t131 t132 t133 5 ji11 (-1) 6 ji13 (-1) bt162.1 bt162.2.1)) else (dialtonelaw14_LifeRestores.j2 kj65 t127 y150 false t130 t131 t132 t133 5 ji11 (-1) 6 ji13 (-1) bt162.1 bt162.2.1)))) = some r := by rw [if_neg (show ¬ (false = true) by decide)] at H; exact H
 clear H
 have H := H1
 clear H1
 replace H := Option.bind_eq_some_iff.mp H
 obtain ⟨t161, A910, H⟩ := H
 replace H : ((life_Keep.f t127 t161).bind fun bt162 => (if bt162.2.2 = 0 then (if bt162.1 = t132 then (dialtonelaw14_LifeRestores.j2 kj65 t127 y150 (decide (bt162.2.1 ≤ ji13)) t130 t131 t132 t133 5 ji11 (-1) 6 ji13 (-1) bt162.1 bt162.2.1) else (dialtonelaw14_LifeRestores.j2 kj65 t127 y150 false t130 t131 t132 t133 5 ji11 (-1) 6 ji13 (-1) bt162.1 bt162.2.1)) else (dialtonelaw14_LifeRestores.j2 kj65 t127 y150 false t130 t131 t132 t133 5 ji11 (-1) 6 ji13 (-1) bt162.1 bt162.2.1))) = some r := H
 have A91 := Aside0.mk A910
 clear A910
 replace H := Option.bind_eq_some_iff.mp H
 obtain ⟨⟨t162, t163, t164⟩, A920, H⟩ := H
 replace H : (if t164 = 0 then (if t162 = t132 then (dialtonelaw14_LifeRestores.j2 kj65 t127 y150 (decide (t163 ≤ ji13)) t130 t131 t132 t133 5 ji11 (-1) 6 ji13 (-1) t162 t163) else (dialtonelaw14_LifeRestores.j2 kj65 t127 y150 false t130 t131 t132 t133 5 ji11 (-1) 6 ji13 (-1) t162 t163)) else (dialtonelaw14_LifeRestores.j2 kj65 t127 y150 false t130 t131 t132 t133 5 ji11 (-1) 6 ji13 (-1) t162 t163)) = some r := H
 have A92 := Aside0.mk A920
 clear A920
 have HC93 := Aside0.mk H
 clear H
 go_upto_region 19 with (first | ((with_reducible refine gate_callee (f := 24) rfl ?_); refine goesL_ (some 104) rfl rfl Try.func24 au28 rfl #[.slice Ao20 t127.length co20, .int .i64 a3] rfl au12 ?_; (with_reducible refine (dialtoneref14_Time.calls _ _ t127 a3 t161 _ ?side1 ?side2 A91.out).mono ?_); (case side1 => repeat (first | exact (Kd.R_reads' HO_9.out).2.2 | (with_reducible refine Kd.C_alloc ?_ _) | (with_reducible refine Kd.C_drewN ?_ _) | (with_reducible refine Kd.C_drew ?_))); (case side2 => exact (Kd.R_reads' HO_9.out).2.1); rintro e w94 ⟨rfl, hb⟩; refine ⟨_, rfl, ?_⟩; have n0_ := Aside0.mk (Kd.R_below au8 hb); have n1_ := Aside0.mk (Kd.R_below au26 hb); have n2_ := Aside0.mk (blk_below (g := gb136) (o := .cells #[.int .i64 t130, .int .i64 t131, .int .i64 t132, .int .i64 t133] 26 (0, 0)) au5 hb); have n3_ := Aside0.mk (blk_below (g := gb138) (o := .cells #[.int .i64 5, .int .i64 ji11, .int .i64 (-1)] 54 (0, 0)) au2 hb); have n4_ := Aside0.mk (blk_below (g := gb140) (o := .cells #[.int .i64 6, .int .i64 ji13, .int .i64 (-1)] 54 (0, 0)) au1 hb); have n5_ := Aside0.mk (below_step au3 hb); clear HO_9; clear HO_15; clear BK136; clear BK138; clear BK140; clear HB; have HO_9 := n0_; have HO_15 := n1_; have BK136 := n2_; have BK138 := n3_; have BK140 := n4_; have HB := n5_; clear n0_ n1_ n2_ n3_ n4_ n5_; (try clear hb); (try clear hb2); (try clear hk); (try clear hi)) | ((with_reducible refine gate_callee (f := 27) rfl ?_); refine goesL_ (some 105) rfl rfl Try.func27 au28 rfl #[.slice Ao20 t127.length co20, .int .i64 t161] rfl au12 ?_; (with_reducible refine (life_Keep.calls _ _ t127 t161 t162 t163 t164 _ ?side1 ?side2 A92.out).mono ?_); (case side1 => repeat (first | exact (Kd.R_reads' HO_9.out).2.2 | (with_reducible refine Kd.C_alloc ?_ _) | (with_reducible refine Kd.C_drewN ?_ _) | (with_reducible refine Kd.C_drew ?_))); (case side2 => exact (Kd.R_reads' HO_9.out).2.1); rintro e w95 ⟨rfl, hb⟩; refine ⟨_, rfl, ?_⟩; have n0_ := Aside0.mk (Kd.R_below au8 hb); have n1_ := Aside0.mk (Kd.R_below au26 hb); have n2_ := Aside0.mk (blk_below (g := gb136) (o := .cells #[.int .i64 t130, .int .i64 t131, .int .i64 t132, .int .i64 t133] 26 (0, 0)) au5 hb); have n3_ := Aside0.mk (blk_below (g := gb138) (o := .cells #[.int .i64 5, .int .i64 ji11, .int .i64 (-1)] 54 (0, 0)) au2 hb); have n4_ := Aside0.mk (blk_below (g := gb140) (o := .cells #[.int .i64 6, .int .i64 ji13, .int .i64 (-1)] 54 (0, 0)) au1 hb); have n5_ := Aside0.mk (below_step au3 hb); clear HO_9; clear HO_15; clear BK136; clear BK138; clear BK140; clear HB; have HO_9 := n0_; have HO_15 := n1_; have BK136 := n2_; have BK138 := n3_; have BK140 := n4_; have HB := n5_; clear n0_ n1_ n2_ n3_ n4_ n5_; (try clear hb); (try clear hb2); (try clear hk); (try clear hi)) | ((with_reducible refine gate_dst (N := 20) rfl ?_); (try (refine gate_guard (by rfl) ?_; dsimp only)); refine box_event ?hg (N := 20) ?hd (cs := #[.int .i64 0, .int .i64 0]) (t := 28) ?hr ?_; (case hd => rfl); (case hg => rfl); (case hr => first | (go_simp; done) | (go_simp; rfl)); intro gb165 hg w96 hbox hb; have n0_ := Aside0.mk (Kd.R_below au8 hb); have n1_ := Aside0.mk (Kd.R_below au26 hb); have n2_ := Aside0.mk (blk_below (g := gb136) (o := .cells #[.int .i64 t130, .int .i64 t131, .int .i64 t132, .int .i64 t133] 26 (0, 0)) au5 hb); have n3_ := Aside0.mk (blk_below (g := gb138) (o := .cells #[.int .i64 5, .int .i64 ji11, .int .i64 (-1)] 54 (0, 0)) au2 hb); have n4_ := Aside0.mk (blk_below (g := gb140) (o := .cells #[.int .i64 6, .int .i64 ji13, .int .i64 (-1)] 54 (0, 0)) au1 hb); have n5_ := Aside0.mk (below_step au3 hb); have n6_ := Aside0.mk (hbox); have n7_ := Aside0.mk ((by rw [hg]; exact (below_size au3) : w.heap.size ≤ gb165)); have n8_ := Aside0.mk ((by rw [hg]; exact (below_size au3) : w.heap.size ≤ gb165)); have n9_ := Aside0.mk ((by rw [hg]; exact Nat.ne_of_lt (blk_lt (g := gb136) (o := .cells #[.int .i64 t130, .int .i64 t131, .int .i64 t132, .int .i64 t133] 26 (0, 0)) au5) : gb136 ≠ gb165)); have n10_ := Aside0.mk ((by rw [hg]; exact Nat.ne_of_gt (blk_lt (g := gb136) (o := .cells #[.int .i64 t130, .int .i64 t131, .int .i64 t132, .int .i64 t133] 26 (0, 0)) au5) : gb165 ≠ gb136)); have n11_ := Aside0.mk ((by rw [hg]; exact Nat.ne_of_lt (blk_lt (g := gb138) (o := .cells #[.int .i64 5, .int .i64 ji11, .int .i64 (-1)] 54 (0, 0)) au2) : gb138 ≠ gb165)); have n12_ := Aside0.mk ((by rw [hg]; exact Nat.ne_of_gt (blk_lt (g := gb138) (o := .cells #[.int .i64 5, .int .i64 ji11, .int .i64 (-1)] 54 (0, 0)) au2) : gb165 ≠ gb138)); have n13_ := Aside0.mk ((by rw [hg]; exact Nat.ne_of_lt (blk_lt (g := gb140) (o := .cells #[.int .i64 6, .int .i64 ji13, .int .i64 (-1)] 54 (0, 0)) au1) : gb140 ≠ gb165)); have n14_ := Aside0.mk ((by rw [hg]; exact Nat.ne_of_gt (blk_lt (g := gb140) (o := .cells #[.int .i64 6, .int .i64 ji13, .int .i64 (-1)] 54 (0, 0)) au1) : gb165 ≠ gb140)); clear HO_9; clear HO_15; clear BK136; clear BK138; clear BK140; clear HB; have HO_9 := n0_; have HO_15 := n1_; have BK136 := n2_; have BK138 := n3_; have BK140 := n4_; have HB := n5_; have BK165 := n6_; have GW165 := n7_; have GE165 := n8_; have NB136_165 := n9_; have NB165_136 := n10_; have NB138_165 := n11_; have NB165_138 := n12_; have NB140_165 := n13_; have NB165_140 := n14_; clear n0_ n1_ n2_ n3_ n4_ n5_ n6_ n7_ n8_ n9_ n10_ n11_ n12_ n13_ n14_; clear hb hbox hg; have hnb97 := NB165_136.out; have hnc97 := NB136_165.out; have hnb98 := NB165_138.out; have hnc98 := NB138_165.out; have hnb99 := NB165_140.out; have hnc99 := NB140_165.out; have hcz100_0 : w96.cell? ⟨gb165, 0, none⟩ = some (.int .i64 0) := (blk_cell BK165.out 0).trans rfl; have hcz100_1 : w96.cell? ⟨gb165, 1, none⟩ = some (.int .i64 0) := (blk_cell BK165.out 1).trans rfl; have hfz100_0 := blk_frozen BK165.out 0; have hfz100_1 := blk_frozen BK165.out 1))
 (try simp only [Act.put, List.setIfInBounds_toArray, List.set_cons_zero, List.set_cons_succ])
 go_cut [123] (fun v123 wc => ∃ (kq : Nat) (x123_92 : Bool), v123 = .bool x123_92 ∧ Aside0 (dialtonelaw14_LifeRestores.j2 kq t127 y150 x123_92 t130 t131 t132 t133 5 ji11 (-1) 6 ji13 (-1) t162 t163 = some r) ∧ Aside0 (kq ≤ kj65) ∧ Aside0 (Kd.R k54 54 wc w.heap.size (fun k_ => some k_ ≠ ((.slice Ao48 y150.length co48) : Value).ownBlock ∧ k_ ≠ gb138 ∧ k_ ≠ gb140) (.slice Ao20 t127.length co20) t127) ∧ Aside0 (Kd.R k54 54 wc w.heap.size (fun k_ => some k_ ≠ ((.slice Ao20 t127.length co20) : Value).ownBlock ∧ k_ ≠ gb138 ∧ k_ ≠ gb140) (.slice Ao48 y150.length co48) y150) ∧ Aside0 (wc.heap[gb136]? = some (.cells #[.int .i64 t130, .int .i64 t131, .int .i64 t132, .int .i64 t133] 26 (0, 0))) ∧ Aside0 (wc.heap[gb138]? = some (.cells #[.int .i64 5, .int .i64 ji11, .int .i64 (-1)] 54 (0, 0))) ∧ Aside0 (wc.heap[gb140]? = some (.cells #[.int .i64 6, .int .i64 ji13, .int .i64 (-1)] 54 (0, 0))) ∧ Aside0 (wc.heap[gb165]? = some (.cells #[.int .i64 t162, .int .i64 t163] 28 (0, 0))) ∧ Aside0 (Below w.heap.size w wc))
 case first =>
  have H := HC93.out
  clear HC93
  by_cases c101 : t164 = 0
  rotate_left
  · rw [if_neg c101] at H
    have c101b0 : (t164 == 0) = false := beq_eq_false_iff_ne.mpr c101
    have c101b1 : (t164 != 0) = true := bne_iff_ne.mpr c101
    (first | rw [c101b0] | (simp only [i64_w, i32_w]; rw [c101b0]) | rw [c101b1] | skip)
    have H' := Aside0.mk H
    clear H
    go_wp2
    go_meet
    case rel => exact ⟨_, (false), (by first | rfl | (simp; done) | (simp [*]; done)), H', ⟨by have := HJ16.out; have := HJ65.out; first | omega | exact Nat.le_refl _⟩, ⟨by (with_reducible repeat (first | apply Kd.R_alloc | apply Kd.R_drewN | apply Kd.R_drew)); exact Kd.R_mono (Kd.R_far (p := ⟨gb165, 1, none⟩) (Kd.R_far (p := ⟨gb165, 0, none⟩) (Kd.R_types HO_9.out BK165.out (by decide)) (fun _ hk => hk.2) (.int .i64 t162)) (fun _ hk => hk.2) (.int .i64 t163)) (fun _ hk => ⟨hk.1.1, ⟨hk.1.2.1, hk.1.2.2⟩⟩)⟩, ⟨by (with_reducible repeat (first | apply Kd.R_alloc | apply Kd.R_drewN | apply Kd.R_drew)); exact Kd.R_mono (Kd.R_far (p := ⟨gb165, 1, none⟩) (Kd.R_far (p := ⟨gb165, 0, none⟩) (Kd.R_types HO_15.out BK165.out (by decide)) (fun _ hk => hk.2) (.int .i64 t162)) (fun _ hk => hk.2) (.int .i64 t163)) (fun _ hk => ⟨hk.1.1, ⟨hk.1.2.1, hk.1.2.2⟩⟩)⟩, ⟨by (with_reducible repeat (first | refine blk_drewN ?_ _ | refine blk_drew ?_ | refine blk_alloc ?_ _)); refine blk_far ?_ NB136_165.out _; (with_reducible repeat (first | refine blk_drewN ?_ _ | refine blk_drew ?_ | refine blk_alloc ?_ _)); refine blk_far ?_ NB136_165.out _; (with_reducible repeat (first | refine blk_drewN ?_ _ | refine blk_drew ?_ | refine blk_alloc ?_ _)); exact BK136.out⟩, ⟨by (with_reducible repeat (first | refine blk_drewN ?_ _ | refine blk_drew ?_ | refine blk_alloc ?_ _)); refine blk_far ?_ NB138_165.out _; (with_reducible repeat (first | refine blk_drewN ?_ _ | refine blk_drew ?_ | refine blk_alloc ?_ _)); refine blk_far ?_ NB138_165.out _; (with_reducible repeat (first | refine blk_drewN ?_ _ | refine blk_drew ?_ | refine blk_alloc ?_ _)); exact BK138.out⟩, ⟨by (with_reducible repeat (first | refine blk_drewN ?_ _ | refine blk_drew ?_ | refine blk_alloc ?_ _)); refine blk_far ?_ NB140_165.out _; (with_reducible repeat (first | refine blk_drewN ?_ _ | refine blk_drew ?_ | refine blk_alloc ?_ _)); refine blk_far ?_ NB140_165.out _; (with_reducible repeat (first | refine blk_drewN ?_ _ | refine blk_drew ?_ | refine blk_alloc ?_ _)); exact BK140.out⟩, ⟨by (with_reducible repeat (first | refine blk_drewN ?_ _ | refine blk_drew ?_ | refine blk_alloc ?_ _)); refine blk_put (cs := #[.int .i64 t162, .int .i64 0]) ?_ 1 _ rfl; (with_reducible repeat (first | refine blk_drewN ?_ _ | refine blk_drew ?_ | refine blk_alloc ?_ _)); refine blk_put (cs := #[.int .i64 0, .int .i64 0]) ?_ 0 _ rfl; (with_reducible repeat (first | refine blk_drewN ?_ _ | refine blk_drew ?_ | refine blk_alloc ?_ _)); exact BK165.out⟩, ⟨by repeat (first | (with_reducible first | exact HB.out | apply below_alloc | apply pw_below_drewN | apply below_drew1 | refine below_set ?_ GE136.out | refine below_set ?_ GE138.out | refine below_set ?_ GE140.out | refine below_set ?_ GE165.out) | exact HB.out)⟩⟩
  rw [if_pos c101] at H
  have c101b0 : (t164 == 0) = true := beq_iff_eq.mpr c101
  have c101b1 : (t164 != 0) = false := bne_eq_false_iff_eq.mpr c101
  clear c101
  (first | rw [c101b0] | (simp only [i64_w, i32_w]; rw [c101b0]) | rw [c101b1] | skip)
  by_cases c102 : t162 = t132
  rotate_left
  · rw [if_neg c102] at H
    have c102b0 : (t162 == t132) = false := beq_eq_false_iff_ne.mpr c102
    have c102b1 : (t162 != t132) = true := bne_iff_ne.mpr c102
    have H' := Aside0.mk H
    clear H
    have hnb112 := NB165_136.out
    have hnc112 := NB136_165.out
    have hnb113 := NB165_138.out
    have hnc113 := NB138_165.out
    have hnb114 := NB165_140.out
    have hnc114 := NB140_165.out
    have hcz115_0 : w96.cell? ⟨gb165, 0, none⟩ = some (.int .i64 0) := (blk_cell BK165.out 0).trans rfl
    have hcz115_1 : w96.cell? ⟨gb165, 1, none⟩ = some (.int .i64 0) := (blk_cell BK165.out 1).trans rfl
    have hfz115_0 := blk_frozen BK165.out 0
    have hfz115_1 := blk_frozen BK165.out 1
    have hnb116 := NB136_138.out
    have hnc116 := NB138_136.out
    have hnb117 := NB136_140.out
    have hnc117 := NB140_136.out
    have hcz118_0 : w96.cell? ⟨gb136, 0, none⟩ = some (.int .i64 t130) := (blk_cell BK136.out 0).trans rfl
    have hcz118_1 : w96.cell? ⟨gb136, 1, none⟩ = some (.int .i64 t131) := (blk_cell BK136.out 1).trans rfl
    have hcz118_2 : w96.cell? ⟨gb136, 2, none⟩ = some (.int .i64 t132) := (blk_cell BK136.out 2).trans rfl
    have hcz118_3 : w96.cell? ⟨gb136, 3, none⟩ = some (.int .i64 t133) := (blk_cell BK136.out 3).trans rfl
    have hfz118_0 := blk_frozen BK136.out 0
    have hfz118_1 := blk_frozen BK136.out 1
    have hfz118_2 := blk_frozen BK136.out 2
    have hfz118_3 := blk_frozen BK136.out 3
    go_wp2
    go_meet
    case rel => exact ⟨_, (false), (by first | rfl | (simp; done) | (simp [*]; done)), H', ⟨by have := HJ16.out; have := HJ65.out; first | omega | exact Nat.le_refl _⟩, ⟨by (with_reducible repeat (first | apply Kd.R_alloc | apply Kd.R_drewN | apply Kd.R_drew)); exact Kd.R_mono (Kd.R_far (p := ⟨gb165, 1, none⟩) (Kd.R_far (p := ⟨gb165, 0, none⟩) (Kd.R_types HO_9.out BK165.out (by decide)) (fun _ hk => hk.2) (.int .i64 t162)) (fun _ hk => hk.2) (.int .i64 t163)) (fun _ hk => ⟨hk.1.1, ⟨hk.1.2.1, hk.1.2.2⟩⟩)⟩, ⟨by (with_reducible repeat (first | apply Kd.R_alloc | apply Kd.R_drewN | apply Kd.R_drew)); exact Kd.R_mono (Kd.R_far (p := ⟨gb165, 1, none⟩) (Kd.R_far (p := ⟨gb165, 0, none⟩) (Kd.R_types HO_15.out BK165.out (by decide)) (fun _ hk => hk.2) (.int .i64 t162)) (fun _ hk => hk.2) (.int .i64 t163)) (fun _ hk => ⟨hk.1.1, ⟨hk.1.2.1, hk.1.2.2⟩⟩)⟩, ⟨by (with_reducible repeat (first | refine blk_drewN ?_ _ | refine blk_drew ?_ | refine blk_alloc ?_ _)); refine blk_far ?_ NB136_165.out _; (with_reducible repeat (first | refine blk_drewN ?_ _ | refine blk_drew ?_ | refine blk_alloc ?_ _)); refine blk_far ?_ NB136_165.out _; (with_reducible repeat (first | refine blk_drewN ?_ _ | refine blk_drew ?_ | refine blk_alloc ?_ _)); exact BK136.out⟩, ⟨by (with_reducible repeat (first | refine blk_drewN ?_ _ | refine blk_drew ?_ | refine blk_alloc ?_ _)); refine blk_far ?_ NB138_165.out _; (with_reducible repeat (first | refine blk_drewN ?_ _ | refine blk_drew ?_ | refine blk_alloc ?_ _)); refine blk_far ?_ NB138_165.out _; (with_reducible repeat (first | refine blk_drewN ?_ _ | refine blk_drew ?_ | refine blk_alloc ?_ _)); exact BK138.out⟩, ⟨by (with_reducible repeat (first | refine blk_drewN ?_ _ | refine blk_drew ?_ | refine blk_alloc ?_ _)); refine blk_far ?_ NB140_165.out _; (with_reducible repeat (first | refine blk_drewN ?_ _ | refine blk_drew ?_ | refine blk_alloc ?_ _)); refine blk_far ?_ NB140_165.out _; (with_reducible repeat (first | refine blk_drewN ?_ _ | refine blk_drew ?_ | refine blk_alloc ?_ _)); exact BK140.out⟩, ⟨by (with_reducible repeat (first | refine blk_drewN ?_ _ | refine blk_drew ?_ | refine blk_alloc ?_ _)); refine blk_put (cs := #[.int .i64 t162, .int .i64 0]) ?_ 1 _ rfl; (with_reducible repeat (first | refine blk_drewN ?_ _ | refine blk_drew ?_ | refine blk_alloc ?_ _)); refine blk_put (cs := #[.int .i64 0, .int .i64 0]) ?_ 0 _ rfl; (with_reducible repeat (first | refine blk_drewN ?_ _ | refine blk_drew ?_ | refine blk_alloc ?_ _)); exact BK165.out⟩, ⟨by repeat (first | (with_reducible first | exact HB.out | apply below_alloc | apply pw_below_drewN | apply below_drew1 | refine below_set ?_ GE136.out | refine below_set ?_ GE138.out | refine below_set ?_ GE140.out | refine below_set ?_ GE165.out) | exact HB.out)⟩⟩
  rw [if_pos c102] at H
  have c102b0 : (t162 == t132) = true := beq_iff_eq.mpr c102
  have c102b1 : (t162 != t132) = false := bne_eq_false_iff_eq.mpr c102
  clear c102
  have H' := Aside0.mk H
  clear H
  have hnb103 := NB165_136.out
  have hnc103 := NB136_165.out
  have hnb104 := NB165_138.out
  have hnc104 := NB138_165.out
  have hnb105 := NB165_140.out
  have hnc105 := NB140_165.out
  have hcz106_0 : w96.cell? ⟨gb165, 0, none⟩ = some (.int .i64 0) := (blk_cell BK165.out 0).trans rfl
  have hcz106_1 : w96.cell? ⟨gb165, 1, none⟩ = some (.int .i64 0) := (blk_cell BK165.out 1).trans rfl
  have hfz106_0 := blk_frozen BK165.out 0
  have hfz106_1 := blk_frozen BK165.out 1
  have hnb107 := NB136_138.out
  have hnc107 := NB138_136.out
  have hnb108 := NB136_140.out
  have hnc108 := NB140_136.out
  have hcz109_0 : w96.cell? ⟨gb136, 0, none⟩ = some (.int .i64 t130) := (blk_cell BK136.out 0).trans rfl
  have hcz109_1 : w96.cell? ⟨gb136, 1, none⟩ = some (.int .i64 t131) := (blk_cell BK136.out 1).trans rfl
  have hcz109_2 : w96.cell? ⟨gb136, 2, none⟩ = some (.int .i64 t132) := (blk_cell BK136.out 2).trans rfl
  have hcz109_3 : w96.cell? ⟨gb136, 3, none⟩ = some (.int .i64 t133) := (blk_cell BK136.out 3).trans rfl
  have hfz109_0 := blk_frozen BK136.out 0
  have hfz109_1 := blk_frozen BK136.out 1
  have hfz109_2 := blk_frozen BK136.out 2
  have hfz109_3 := blk_frozen BK136.out 3
  have hnb110 := NB140_138.out
  have hnc110 := NB138_140.out
  have hcz111_0 : w96.cell? ⟨gb140, 0, none⟩ = some (.int .i64 6) := (blk_cell BK140.out 0).trans rfl
  have hcz111_1 : w96.cell? ⟨gb140, 1, none⟩ = some (.int .i64 ji13) := (blk_cell BK140.out 1).trans rfl
  have hcz111_2 : w96.cell? ⟨gb140, 2, none⟩ = some (.int .i64 (-1)) := (blk_cell BK140.out 2).trans rfl
  have hfz111_0 := blk_frozen BK140.out 0
  have hfz111_1 := blk_frozen BK140.out 1
  have hfz111_2 := blk_frozen BK140.out 2
  go_wp2
  go_meet
  case rel => exact ⟨_, (decide (t163 ≤ ji13)), (by first | rfl | (simp; done) | (simp only [← hji13] <;> (first | rfl | simp)) | (simp [*]; done)), H', ⟨by have := HJ16.out; have := HJ65.out; first | omega | exact Nat.le_refl _⟩, ⟨by (with_reducible repeat (first | apply Kd.R_alloc | apply Kd.R_drewN | apply Kd.R_drew)); exact Kd.R_mono (Kd.R_far (p := ⟨gb165, 1, none⟩) (Kd.R_far (p := ⟨gb165, 0, none⟩) (Kd.R_types HO_9.out BK165.out (by decide)) (fun _ hk => hk.2) (.int .i64 t162)) (fun _ hk => hk.2) (.int .i64 t163)) (fun _ hk => ⟨hk.1.1, ⟨hk.1.2.1, hk.1.2.2⟩⟩)⟩, ⟨by (with_reducible repeat (first | apply Kd.R_alloc | apply Kd.R_drewN | apply Kd.R_drew)); exact Kd.R_mono (Kd.R_far (p := ⟨gb165, 1, none⟩) (Kd.R_far (p := ⟨gb165, 0, none⟩) (Kd.R_types HO_15.out BK165.out (by decide)) (fun _ hk => hk.2) (.int .i64 t162)) (fun _ hk => hk.2) (.int .i64 t163)) (fun _ hk => ⟨hk.1.1, ⟨hk.1.2.1, hk.1.2.2⟩⟩)⟩, ⟨by (with_reducible repeat (first | refine blk_drewN ?_ _ | refine blk_drew ?_ | refine blk_alloc ?_ _)); refine blk_far ?_ NB136_165.out _; (with_reducible repeat (first | refine blk_drewN ?_ _ | refine blk_drew ?_ | refine blk_alloc ?_ _)); refine blk_far ?_ NB136_165.out _; (with_reducible repeat (first | refine blk_drewN ?_ _ | refine blk_drew ?_ | refine blk_alloc ?_ _)); exact BK136.out⟩, ⟨by (with_reducible repeat (first | refine blk_drewN ?_ _ | refine blk_drew ?_ | refine blk_alloc ?_ _)); refine blk_far ?_ NB138_165.out _; (with_reducible repeat (first | refine blk_drewN ?_ _ | refine blk_drew ?_ | refine blk_alloc ?_ _)); refine blk_far ?_ NB138_165.out _; (with_reducible repeat (first | refine blk_drewN ?_ _ | refine blk_drew ?_ | refine blk_alloc ?_ _)); exact BK138.out⟩, ⟨by (with_reducible repeat (first | refine blk_drewN ?_ _ | refine blk_drew ?_ | refine blk_alloc ?_ _)); refine blk_far ?_ NB140_165.out _; (with_reducible repeat (first | refine blk_drewN ?_ _ | refine blk_drew ?_ | refine blk_alloc ?_ _)); refine blk_far ?_ NB140_165.out _; (with_reducible repeat (first | refine blk_drewN ?_ _ | refine blk_drew ?_ | refine blk_alloc ?_ _)); exact BK140.out⟩, ⟨by (with_reducible repeat (first | refine blk_drewN ?_ _ | refine blk_drew ?_ | refine blk_alloc ?_ _)); refine blk_put (cs := #[.int .i64 t162, .int .i64 0]) ?_ 1 _ rfl; (with_reducible repeat (first | refine blk_drewN ?_ _ | refine blk_drew ?_ | refine blk_alloc ?_ _)); refine blk_put (cs := #[.int .i64 0, .int .i64 0]) ?_ 0 _ rfl; (with_reducible repeat (first | refine blk_drewN ?_ _ | refine blk_drew ?_ | refine blk_alloc ?_ _)); exact BK165.out⟩, ⟨by repeat (first | (with_reducible first | exact HB.out | apply below_alloc | apply pw_below_drewN | apply below_drew1 | refine below_set ?_ GE136.out | refine below_set ?_ GE138.out | refine below_set ?_ GE140.out | refine below_set ?_ GE165.out) | exact HB.out)⟩⟩
 clear HC93
 try clear c1
 try clear c2
 try clear p2
 try clear c3
 try clear c5
 try clear c6
 try clear c7
 try clear c8
 try clear c9
 try clear c10
 try clear c11
 try clear c14
 try clear c15
 try clear c17
 try clear c24
 try clear c27
 try clear c29
 try clear c51
 try clear c52
 try clear c53
 try clear c55
 try clear c55b0
 try clear c55b1
 try clear c56
 try clear c57
 try clear c58
 try clear c60
 try clear c61
 try clear c62
 try clear c64
 try clear c65
 try clear c65b0
 try clear c65b1
 try clear c67
 try clear c68
 try clear c69
 try clear c72
 try clear c73
 try clear c74
 try clear c75
 try clear c77
 try clear c78
 try clear c80
 try clear c80b0
 try clear c80b1
 try clear c81
 try clear c82
 try clear c83
 try clear c84
 try clear c86
 try clear c87
 try clear c88
 try clear c90
 try clear c97
 try clear c98
 try clear c99
 try clear c101
 try clear c101b0
 try clear c101b1
 try clear c102
 try clear c102b0
 try clear c102b1
 try clear c103
 try clear c104
 try clear c105
 try clear c107
 try clear c108
 try clear c110
 try clear c112
 try clear c113
 try clear c114
 try clear c116
 try clear c117
 try clear hcz100_0
 try clear hcz100_1
 try clear hcz106_0
 try clear hcz106_1
 try clear hcz109_0
 try clear hcz109_1
 try clear hcz109_2
 try clear hcz109_3
 try clear hcz111_0
 try clear hcz111_1
 try clear hcz111_2
 try clear hcz115_0
 try clear hcz115_1
 try clear hcz118_0
 try clear hcz118_1
 try clear hcz118_2
 try clear hcz118_3
 try clear hcz54_0
 try clear hcz54_1
 try clear hcz54_2
 try clear hcz54_3
 try clear hcz59_0
 try clear hcz59_1
 try clear hcz59_2
 try clear hcz59_3
 try clear hcz63_0
 try clear hcz63_1
 try clear hcz63_2
 try clear hcz63_3
 try clear hcz70_0
 try clear hcz70_1
 try clear hcz70_2
 try clear hcz70_3
 try clear hcz76_0
 try clear hcz76_1
 try clear hcz76_2
 try clear hcz76_3
 try clear hcz79_0
 try clear hcz79_1
 try clear hcz79_2
 try clear hcz85_0
 try clear hcz85_1
 try clear hcz85_2
 try clear hcz85_3
 try clear hcz89_0
 try clear hcz89_1
 try clear hcz89_2
 try clear hcz89_3
 try clear hfz100_0
 try clear hfz100_1
 try clear hfz106_0
 try clear hfz106_1
 try clear hfz109_0
 try clear hfz109_1
 try clear hfz109_2
 try clear hfz109_3
 try clear hfz111_0
 try clear hfz111_1
 try clear hfz111_2
 try clear hfz115_0
 try clear hfz115_1
 try clear hfz118_0
 try clear hfz118_1
 try clear hfz118_2
 try clear hfz118_3
 try clear hfz54_0
 try clear hfz54_1
 try clear hfz54_2
 try clear hfz54_3
 try clear hfz59_0
 try clear hfz59_1
 try clear hfz59_2
 try clear hfz59_3
 try clear hfz63_0
 try clear hfz63_1
 try clear hfz63_2
 try clear hfz63_3
 try clear hfz70_0
 try clear hfz70_1
 try clear hfz70_2
 try clear hfz70_3
 try clear hfz76_0
 try clear hfz76_1
 try clear hfz76_2
 try clear hfz76_3
 try clear hfz79_0
 try clear hfz79_1
 try clear hfz79_2
 try clear hfz85_0
 try clear hfz85_1
 try clear hfz85_2
 try clear hfz85_3
 try clear hfz89_0
 try clear hfz89_1
 try clear hfz89_2
 try clear hfz89_3
 try clear p2
 obtain ⟨kq, x123_92, rfl, HA, HJ92, HO_9, HO_15, BK136, BK138, BK140, BK165, HB⟩ := hcut
 obtain _ | kj92 := kq
 · exact absurd HA.out (by simp [dialtonelaw14_LifeRestores.j2])
 have H := HA.out
 clear HA
 simp only [dialtonelaw14_LifeRestores.j2] at H
 have HC119 := Aside0.mk H
 clear H
 go_upto_if 123 with (fail)
 go_cut [] (fun wc => ∃ (kq : Nat), Aside0 (dialtonelaw14_LifeRestores.j3 kq t127 5 ji11 (-1) 6 ji13 (-1) = some r) ∧ Aside0 (kq ≤ kj92) ∧ Aside0 (Kd.R k54 54 wc w.heap.size (fun k_ => k_ ≠ gb138 ∧ k_ ≠ gb140) (.slice Ao20 t127.length co20) t127) ∧ Aside0 (wc.heap[gb138]? = some (.cells #[.int .i64 5, .int .i64 ji11, .int .i64 (-1)] 54 (0, 0))) ∧ Aside0 (wc.heap[gb140]? = some (.cells #[.int .i64 6, .int .i64 ji13, .int .i64 (-1)] 54 (0, 0))) ∧ Aside0 (Below w.heap.size w wc))
 case first =>
  have H := HC119.out
  clear HC119
  by_cases c120 : x123_92 = true
  rotate_left
  · replace c120 := Bool.eq_false_iff.mpr c120
    subst c120
    have H1 : (dialtonelaw14_LifeRestores.j3 kj92 t127 5 ji11 (-1) 6 ji13 (-1)) = some r := by rw [if_neg (show ¬ (false = true) by decide)] at H; exact H
    clear H
    have H := H1
    clear H1
    have H' := Aside0.mk H
    clear H
    go_wp2
    go_meet
    case rel => exact ⟨_, H', ⟨by have := HJ16.out; have := HJ65.out; have := HJ92.out; first | omega | exact Nat.le_refl _⟩, ⟨by (with_reducible repeat (first | apply Kd.R_alloc | apply Kd.R_drewN | apply Kd.R_drew)); exact Kd.R_mono HO_9.out (fun _ hk => ⟨hk.2.1, hk.2.2⟩)⟩, ⟨by (with_reducible repeat (first | refine blk_drewN ?_ _ | refine blk_drew ?_ | refine blk_alloc ?_ _)); exact BK138.out⟩, ⟨by (with_reducible repeat (first | refine blk_drewN ?_ _ | refine blk_drew ?_ | refine blk_alloc ?_ _)); exact BK140.out⟩, ⟨by repeat (first | (with_reducible first | exact HB.out | apply below_alloc | apply pw_below_drewN | apply below_drew1 | refine below_set ?_ GE136.out | refine below_set ?_ GE138.out | refine below_set ?_ GE140.out | refine below_set ?_ GE165.out) | exact HB.out)⟩⟩
  subst c120
  have H1 : ((life_Fate.f y150 t162 t163 ji13).bind fun bt166 => (if bt166.2.2 = 0 then (if bt166.1 = 1 then (if bt166.2.1 = t131 then (dialtonelaw14_LifeRestores.j3 kj92 t127 5 ji11 (-1) 6 ji13 (-1)) else (some false)) else (some false)) else (if t163 < ji11 then (some false) else (dialtonelaw14_LifeRestores.j3 kj92 t127 5 ji11 (-1) 6 ji13 (-1))))) = some r := by rw [if_pos rfl] at H; exact H
  clear H
  have H := H1
  clear H1
  replace H := Option.bind_eq_some_iff.mp H
  obtain ⟨⟨t166, t167, t168⟩, A1210, H⟩ := H
  replace H : (if t168 = 0 then (if t166 = 1 then (if t167 = t131 then (dialtonelaw14_LifeRestores.j3 kj92 t127 5 ji11 (-1) 6 ji13 (-1)) else (some false)) else (some false)) else (if t163 < ji11 then (some false) else (dialtonelaw14_LifeRestores.j3 kj92 t127 5 ji11 (-1) 6 ji13 (-1)))) = some r := H
  have A121 := Aside0.mk A1210
  clear A1210
  by_cases c122 : t168 = 0
  rotate_left
  · rw [if_neg c122] at H
    have c122b0 : (t168 == 0) = false := beq_eq_false_iff_ne.mpr c122
    have c122b1 : (t168 != 0) = true := bne_iff_ne.mpr c122
    (first | rw [c122b0] | (simp only [i64_w, i32_w]; rw [c122b0]) | rw [c122b1] | skip)
    by_cases c152 : t163 < ji11
    · rw [if_pos c152] at H
      have c152b0 : decide (t163 < ji11) = true := decide_eq_true c152
      clear c152
      obtain rfl := Option.some.inj H
      have hnb153 := NB165_136.out
      have hnc153 := NB136_165.out
      have hnb154 := NB165_138.out
      have hnc154 := NB138_165.out
      have hnb155 := NB165_140.out
      have hnc155 := NB140_165.out
      have hcz156_0 : wc.cell? ⟨gb165, 0, none⟩ = some (.int .i64 t162) := (blk_cell BK165.out 0).trans rfl
      have hcz156_1 : wc.cell? ⟨gb165, 1, none⟩ = some (.int .i64 t163) := (blk_cell BK165.out 1).trans rfl
      have hfz156_0 := blk_frozen BK165.out 0
      have hfz156_1 := blk_frozen BK165.out 1
      have hnb157 := NB140_136.out
      have hnc157 := NB136_140.out
      have hnb158 := NB140_138.out
      have hnc158 := NB138_140.out
      have hcz159_0 : wc.cell? ⟨gb140, 0, none⟩ = some (.int .i64 6) := (blk_cell BK140.out 0).trans rfl
      have hcz159_1 : wc.cell? ⟨gb140, 1, none⟩ = some (.int .i64 ji13) := (blk_cell BK140.out 1).trans rfl
      have hcz159_2 : wc.cell? ⟨gb140, 2, none⟩ = some (.int .i64 (-1)) := (blk_cell BK140.out 2).trans rfl
      have hfz159_0 := blk_frozen BK140.out 0
      have hfz159_1 := blk_frozen BK140.out 1
      have hfz159_2 := blk_frozen BK140.out 2
      go_wp2_with (first | ((with_reducible refine gate_callee (f := 30) rfl ?_); refine goesL_ (some 129) rfl rfl Try.func30 au28 rfl #[.slice Ao48 y150.length co48, .agg #[.int .i64 t162, .int .i64 t163], .int .i64 ji13] rfl (by (try simp only [List.map_toArray, List.map_cons, List.map_nil]); first | done | (simp only [hji13]; rfl) | rfl | (simp only [List.length_drop, List.length_take]; rfl)) ?_; (with_reducible refine (life_Fate.calls _ _ y150 t162 t163 ji13 t166 t167 t168 _ ?side1 ?side2 A121.out).mono ?_); (case side1 => repeat (first | exact (Kd.R_reads' HO_15.out).2.2 | (with_reducible refine Kd.C_alloc ?_ _) | (with_reducible refine Kd.C_drewN ?_ _) | (with_reducible refine Kd.C_drew ?_))); (case side2 => exact (Kd.R_reads' HO_15.out).2.1); rintro e w160 ⟨rfl, hb⟩; refine ⟨_, rfl, ?_⟩; have n0_ := Aside0.mk (Kd.R_below au8 hb); have n1_ := Aside0.mk (Kd.R_below au26 hb); have n2_ := Aside0.mk (blk_below (g := gb136) (o := .cells #[.int .i64 t130, .int .i64 t131, .int .i64 t132, .int .i64 t133] 26 (0, 0)) au5 hb); have n3_ := Aside0.mk (blk_below (g := gb138) (o := .cells #[.int .i64 5, .int .i64 ji11, .int .i64 (-1)] 54 (0, 0)) au2 hb); have n4_ := Aside0.mk (blk_below (g := gb140) (o := .cells #[.int .i64 6, .int .i64 ji13, .int .i64 (-1)] 54 (0, 0)) au1 hb); have n5_ := Aside0.mk (blk_below (g := gb165) (o := .cells #[.int .i64 t162, .int .i64 t163] 28 (0, 0)) (by (with_reducible repeat (first | refine blk_drewN ?_ _ | refine blk_drew ?_ | refine blk_alloc ?_ _)); exact BK165.out) hb); have n6_ := Aside0.mk (below_step au23 hb); clear HO_9; clear HO_15; clear BK136; clear BK138; clear BK140; clear BK165; clear HB; have HO_9 := n0_; have HO_15 := n1_; have BK136 := n2_; have BK138 := n3_; have BK140 := n4_; have BK165 := n5_; have HB := n6_; clear n0_ n1_ n2_ n3_ n4_ n5_ n6_; (try clear hb); (try clear hb2); (try clear hk); (try clear hi); (try clear BK136); (try clear BK140); have hcz161_0 : w160.cell? ⟨gb165, 0, none⟩ = some (.int .i64 t162) := (blk_cell BK165.out 0).trans rfl; have hcz161_1 : w160.cell? ⟨gb165, 1, none⟩ = some (.int .i64 t163) := (blk_cell BK165.out 1).trans rfl; have hfz161_0 := blk_frozen BK165.out 0; have hfz161_1 := blk_frozen BK165.out 1; have hcz162_0 : w160.cell? ⟨gb138, 0, none⟩ = some (.int .i64 5) := (blk_cell BK138.out 0).trans rfl; have hcz162_1 : w160.cell? ⟨gb138, 1, none⟩ = some (.int .i64 ji11) := (blk_cell BK138.out 1).trans rfl; have hcz162_2 : w160.cell? ⟨gb138, 2, none⟩ = some (.int .i64 (-1)) := (blk_cell BK138.out 2).trans rfl; have hfz162_0 := blk_frozen BK138.out 0; have hfz162_1 := blk_frozen BK138.out 1; have hfz162_2 := blk_frozen BK138.out 2))
      go_ret
      exact ⟨by first | rfl | (simp [errW_none, errW_some] <;> rfl) | (simp only [← hji11, ← hji13]; first | rfl | (simp [errW_none, errW_some] <;> rfl)) | (simp [*, errW_none, errW_some] <;> rfl), by repeat (first | (with_reducible first | exact HB.out | apply below_alloc | apply pw_below_drewN | apply below_drew1 | refine below_set ?_ GE138.out | refine below_set ?_ GE165.out) | exact HB.out)⟩
    rw [if_neg c152] at H
    have c152b0 : decide (t163 < ji11) = false := decide_eq_false c152
    clear c152
    have H' := Aside0.mk H
    clear H
    have hnb163 := NB165_136.out
    have hnc163 := NB136_165.out
    have hnb164 := NB165_138.out
    have hnc164 := NB138_165.out
    have hnb165 := NB165_140.out
    have hnc165 := NB140_165.out
    have hcz166_0 : wc.cell? ⟨gb165, 0, none⟩ = some (.int .i64 t162) := (blk_cell BK165.out 0).trans rfl
    have hcz166_1 : wc.cell? ⟨gb165, 1, none⟩ = some (.int .i64 t163) := (blk_cell BK165.out 1).trans rfl
    have hfz166_0 := blk_frozen BK165.out 0
    have hfz166_1 := blk_frozen BK165.out 1
    have hnb167 := NB140_136.out
    have hnc167 := NB136_140.out
    have hnb168 := NB140_138.out
    have hnc168 := NB138_140.out
    have hcz169_0 : wc.cell? ⟨gb140, 0, none⟩ = some (.int .i64 6) := (blk_cell BK140.out 0).trans rfl
    have hcz169_1 : wc.cell? ⟨gb140, 1, none⟩ = some (.int .i64 ji13) := (blk_cell BK140.out 1).trans rfl
    have hcz169_2 : wc.cell? ⟨gb140, 2, none⟩ = some (.int .i64 (-1)) := (blk_cell BK140.out 2).trans rfl
    have hfz169_0 := blk_frozen BK140.out 0
    have hfz169_1 := blk_frozen BK140.out 1
    have hfz169_2 := blk_frozen BK140.out 2
    go_wp2_with (first | ((with_reducible refine gate_callee (f := 30) rfl ?_); refine goesL_ (some 129) rfl rfl Try.func30 au28 rfl #[.slice Ao48 y150.length co48, .agg #[.int .i64 t162, .int .i64 t163], .int .i64 ji13] rfl (by (try simp only [List.map_toArray, List.map_cons, List.map_nil]); first | done | (simp only [hji13]; rfl) | rfl | (simp only [List.length_drop, List.length_take]; rfl)) ?_; (with_reducible refine (life_Fate.calls _ _ y150 t162 t163 ji13 t166 t167 t168 _ ?side1 ?side2 A121.out).mono ?_); (case side1 => repeat (first | exact (Kd.R_reads' HO_15.out).2.2 | (with_reducible refine Kd.C_alloc ?_ _) | (with_reducible refine Kd.C_drewN ?_ _) | (with_reducible refine Kd.C_drew ?_))); (case side2 => exact (Kd.R_reads' HO_15.out).2.1); rintro e w170 ⟨rfl, hb⟩; refine ⟨_, rfl, ?_⟩; have n0_ := Aside0.mk (Kd.R_below au8 hb); have n1_ := Aside0.mk (Kd.R_below au26 hb); have n2_ := Aside0.mk (blk_below (g := gb136) (o := .cells #[.int .i64 t130, .int .i64 t131, .int .i64 t132, .int .i64 t133] 26 (0, 0)) au5 hb); have n3_ := Aside0.mk (blk_below (g := gb138) (o := .cells #[.int .i64 5, .int .i64 ji11, .int .i64 (-1)] 54 (0, 0)) au2 hb); have n4_ := Aside0.mk (blk_below (g := gb140) (o := .cells #[.int .i64 6, .int .i64 ji13, .int .i64 (-1)] 54 (0, 0)) au1 hb); have n5_ := Aside0.mk (blk_below (g := gb165) (o := .cells #[.int .i64 t162, .int .i64 t163] 28 (0, 0)) (by (with_reducible repeat (first | refine blk_drewN ?_ _ | refine blk_drew ?_ | refine blk_alloc ?_ _)); exact BK165.out) hb); have n6_ := Aside0.mk (below_step au23 hb); clear HO_9; clear HO_15; clear BK136; clear BK138; clear BK140; clear BK165; clear HB; have HO_9 := n0_; have HO_15 := n1_; have BK136 := n2_; have BK138 := n3_; have BK140 := n4_; have BK165 := n5_; have HB := n6_; clear n0_ n1_ n2_ n3_ n4_ n5_ n6_; (try clear hb); (try clear hb2); (try clear hk); (try clear hi); (try clear BK136); have hcz171_0 : w170.cell? ⟨gb165, 0, none⟩ = some (.int .i64 t162) := (blk_cell BK165.out 0).trans rfl; have hcz171_1 : w170.cell? ⟨gb165, 1, none⟩ = some (.int .i64 t163) := (blk_cell BK165.out 1).trans rfl; have hfz171_0 := blk_frozen BK165.out 0; have hfz171_1 := blk_frozen BK165.out 1; have hcz172_0 : w170.cell? ⟨gb138, 0, none⟩ = some (.int .i64 5) := (blk_cell BK138.out 0).trans rfl; have hcz172_1 : w170.cell? ⟨gb138, 1, none⟩ = some (.int .i64 ji11) := (blk_cell BK138.out 1).trans rfl; have hcz172_2 : w170.cell? ⟨gb138, 2, none⟩ = some (.int .i64 (-1)) := (blk_cell BK138.out 2).trans rfl; have hfz172_0 := blk_frozen BK138.out 0; have hfz172_1 := blk_frozen BK138.out 1; have hfz172_2 := blk_frozen BK138.out 2))
    go_meet
    case rel => exact ⟨_, H', ⟨by have := HJ16.out; have := HJ65.out; have := HJ92.out; first | omega | exact Nat.le_refl _⟩, ⟨by (with_reducible repeat (first | apply Kd.R_alloc | apply Kd.R_drewN | apply Kd.R_drew)); exact Kd.R_mono HO_9.out (fun _ hk => ⟨hk.2.1, hk.2.2⟩)⟩, ⟨by (with_reducible repeat (first | refine blk_drewN ?_ _ | refine blk_drew ?_ | refine blk_alloc ?_ _)); exact BK138.out⟩, ⟨by (with_reducible repeat (first | refine blk_drewN ?_ _ | refine blk_drew ?_ | refine blk_alloc ?_ _)); exact BK140.out⟩, ⟨by repeat (first | (with_reducible first | exact HB.out | apply below_alloc | apply pw_below_drewN | apply below_drew1 | refine below_set ?_ GE138.out | refine below_set ?_ GE140.out | refine below_set ?_ GE165.out) | exact HB.out)⟩⟩
  rw [if_pos c122] at H
  have c122b0 : (t168 == 0) = true := beq_iff_eq.mpr c122
  have c122b1 : (t168 != 0) = false := bne_eq_false_iff_eq.mpr c122
  clear c122
  (first | rw [c122b0] | (simp only [i64_w, i32_w]; rw [c122b0]) | rw [c122b1] | skip)
  by_cases c123 : t166 = 1
  rotate_left
  · rw [if_neg c123] at H
    have c123b0 : (t166 == 1) = false := beq_eq_false_iff_ne.mpr c123
    have c123b1 : (t166 != 1) = true := bne_iff_ne.mpr c123
    obtain rfl := Option.some.inj H
    have hnb144 := NB165_136.out
    have hnc144 := NB136_165.out
    have hnb145 := NB165_138.out
    have hnc145 := NB138_165.out
    have hnb146 := NB165_140.out
    have hnc146 := NB140_165.out
    have hcz147_0 : wc.cell? ⟨gb165, 0, none⟩ = some (.int .i64 t162) := (blk_cell BK165.out 0).trans rfl
    have hcz147_1 : wc.cell? ⟨gb165, 1, none⟩ = some (.int .i64 t163) := (blk_cell BK165.out 1).trans rfl
    have hfz147_0 := blk_frozen BK165.out 0
    have hfz147_1 := blk_frozen BK165.out 1
    have hnb148 := NB140_136.out
    have hnc148 := NB136_140.out
    have hnb149 := NB140_138.out
    have hnc149 := NB138_140.out
    have hcz150_0 : wc.cell? ⟨gb140, 0, none⟩ = some (.int .i64 6) := (blk_cell BK140.out 0).trans rfl
    have hcz150_1 : wc.cell? ⟨gb140, 1, none⟩ = some (.int .i64 ji13) := (blk_cell BK140.out 1).trans rfl
    have hcz150_2 : wc.cell? ⟨gb140, 2, none⟩ = some (.int .i64 (-1)) := (blk_cell BK140.out 2).trans rfl
    have hfz150_0 := blk_frozen BK140.out 0
    have hfz150_1 := blk_frozen BK140.out 1
    have hfz150_2 := blk_frozen BK140.out 2
    go_wp2_with (first | ((with_reducible refine gate_callee (f := 30) rfl ?_); refine goesL_ (some 129) rfl rfl Try.func30 au28 rfl #[.slice Ao48 y150.length co48, .agg #[.int .i64 t162, .int .i64 t163], .int .i64 ji13] rfl (by (try simp only [List.map_toArray, List.map_cons, List.map_nil]); first | done | (simp only [hji13]; rfl) | rfl | (simp only [List.length_drop, List.length_take]; rfl)) ?_; (with_reducible refine (life_Fate.calls _ _ y150 t162 t163 ji13 t166 t167 t168 _ ?side1 ?side2 A121.out).mono ?_); (case side1 => repeat (first | exact (Kd.R_reads' HO_15.out).2.2 | (with_reducible refine Kd.C_alloc ?_ _) | (with_reducible refine Kd.C_drewN ?_ _) | (with_reducible refine Kd.C_drew ?_))); (case side2 => exact (Kd.R_reads' HO_15.out).2.1); rintro e w151 ⟨rfl, hb⟩; refine ⟨_, rfl, ?_⟩; have n0_ := Aside0.mk (Kd.R_below au8 hb); have n1_ := Aside0.mk (Kd.R_below au26 hb); have n2_ := Aside0.mk (blk_below (g := gb136) (o := .cells #[.int .i64 t130, .int .i64 t131, .int .i64 t132, .int .i64 t133] 26 (0, 0)) au5 hb); have n3_ := Aside0.mk (blk_below (g := gb138) (o := .cells #[.int .i64 5, .int .i64 ji11, .int .i64 (-1)] 54 (0, 0)) au2 hb); have n4_ := Aside0.mk (blk_below (g := gb140) (o := .cells #[.int .i64 6, .int .i64 ji13, .int .i64 (-1)] 54 (0, 0)) au1 hb); have n5_ := Aside0.mk (blk_below (g := gb165) (o := .cells #[.int .i64 t162, .int .i64 t163] 28 (0, 0)) (by (with_reducible repeat (first | refine blk_drewN ?_ _ | refine blk_drew ?_ | refine blk_alloc ?_ _)); exact BK165.out) hb); have n6_ := Aside0.mk (below_step au23 hb); clear HO_9; clear HO_15; clear BK136; clear BK138; clear BK140; clear BK165; clear HB; have HO_9 := n0_; have HO_15 := n1_; have BK136 := n2_; have BK138 := n3_; have BK140 := n4_; have BK165 := n5_; have HB := n6_; clear n0_ n1_ n2_ n3_ n4_ n5_ n6_; (try clear hb); (try clear hb2); (try clear hk); (try clear hi); (try clear BK136); (try clear BK138); (try clear BK140); (try clear BK165)))
    go_ret
    exact ⟨by first | rfl | (simp [errW_none, errW_some] <;> rfl) | (simp only [← hji11, ← hji13]; first | rfl | (simp [errW_none, errW_some] <;> rfl)) | (simp [*, errW_none, errW_some] <;> rfl), by repeat (first | (with_reducible first | exact HB.out | apply below_alloc | apply pw_below_drewN | apply below_drew1) | exact HB.out)⟩
  rw [if_pos c123] at H
  have c123b0 : (t166 == 1) = true := beq_iff_eq.mpr c123
  have c123b1 : (t166 != 1) = false := bne_eq_false_iff_eq.mpr c123
  clear c123
  by_cases c124 : t167 = t131
  rotate_left
  · rw [if_neg c124] at H
    have c124b0 : (t167 == t131) = false := beq_eq_false_iff_ne.mpr c124
    have c124b1 : (t167 != t131) = true := bne_iff_ne.mpr c124
    obtain rfl := Option.some.inj H
    have hnb135 := NB165_136.out
    have hnc135 := NB136_165.out
    have hnb136 := NB165_138.out
    have hnc136 := NB138_165.out
    have hnb137 := NB165_140.out
    have hnc137 := NB140_165.out
    have hcz138_0 : wc.cell? ⟨gb165, 0, none⟩ = some (.int .i64 t162) := (blk_cell BK165.out 0).trans rfl
    have hcz138_1 : wc.cell? ⟨gb165, 1, none⟩ = some (.int .i64 t163) := (blk_cell BK165.out 1).trans rfl
    have hfz138_0 := blk_frozen BK165.out 0
    have hfz138_1 := blk_frozen BK165.out 1
    have hnb139 := NB140_136.out
    have hnc139 := NB136_140.out
    have hnb140 := NB140_138.out
    have hnc140 := NB138_140.out
    have hcz141_0 : wc.cell? ⟨gb140, 0, none⟩ = some (.int .i64 6) := (blk_cell BK140.out 0).trans rfl
    have hcz141_1 : wc.cell? ⟨gb140, 1, none⟩ = some (.int .i64 ji13) := (blk_cell BK140.out 1).trans rfl
    have hcz141_2 : wc.cell? ⟨gb140, 2, none⟩ = some (.int .i64 (-1)) := (blk_cell BK140.out 2).trans rfl
    have hfz141_0 := blk_frozen BK140.out 0
    have hfz141_1 := blk_frozen BK140.out 1
    have hfz141_2 := blk_frozen BK140.out 2
    go_wp2_with (first | ((with_reducible refine gate_callee (f := 30) rfl ?_); refine goesL_ (some 129) rfl rfl Try.func30 au28 rfl #[.slice Ao48 y150.length co48, .agg #[.int .i64 t162, .int .i64 t163], .int .i64 ji13] rfl (by (try simp only [List.map_toArray, List.map_cons, List.map_nil]); first | done | (simp only [hji13]; rfl) | rfl | (simp only [List.length_drop, List.length_take]; rfl)) ?_; (with_reducible refine (life_Fate.calls _ _ y150 t162 t163 ji13 t166 t167 t168 _ ?side1 ?side2 A121.out).mono ?_); (case side1 => repeat (first | exact (Kd.R_reads' HO_15.out).2.2 | (with_reducible refine Kd.C_alloc ?_ _) | (with_reducible refine Kd.C_drewN ?_ _) | (with_reducible refine Kd.C_drew ?_))); (case side2 => exact (Kd.R_reads' HO_15.out).2.1); rintro e w142 ⟨rfl, hb⟩; refine ⟨_, rfl, ?_⟩; have n0_ := Aside0.mk (Kd.R_below au8 hb); have n1_ := Aside0.mk (Kd.R_below au26 hb); have n2_ := Aside0.mk (blk_below (g := gb136) (o := .cells #[.int .i64 t130, .int .i64 t131, .int .i64 t132, .int .i64 t133] 26 (0, 0)) au5 hb); have n3_ := Aside0.mk (blk_below (g := gb138) (o := .cells #[.int .i64 5, .int .i64 ji11, .int .i64 (-1)] 54 (0, 0)) au2 hb); have n4_ := Aside0.mk (blk_below (g := gb140) (o := .cells #[.int .i64 6, .int .i64 ji13, .int .i64 (-1)] 54 (0, 0)) au1 hb); have n5_ := Aside0.mk (blk_below (g := gb165) (o := .cells #[.int .i64 t162, .int .i64 t163] 28 (0, 0)) (by (with_reducible repeat (first | refine blk_drewN ?_ _ | refine blk_drew ?_ | refine blk_alloc ?_ _)); exact BK165.out) hb); have n6_ := Aside0.mk (below_step au23 hb); clear HO_9; clear HO_15; clear BK136; clear BK138; clear BK140; clear BK165; clear HB; have HO_9 := n0_; have HO_15 := n1_; have BK136 := n2_; have BK138 := n3_; have BK140 := n4_; have BK165 := n5_; have HB := n6_; clear n0_ n1_ n2_ n3_ n4_ n5_ n6_; (try clear hb); (try clear hb2); (try clear hk); (try clear hi); (try clear BK138); (try clear BK140); (try clear BK165); have hcz143_0 : w142.cell? ⟨gb136, 0, none⟩ = some (.int .i64 t130) := (blk_cell BK136.out 0).trans rfl; have hcz143_1 : w142.cell? ⟨gb136, 1, none⟩ = some (.int .i64 t131) := (blk_cell BK136.out 1).trans rfl; have hcz143_2 : w142.cell? ⟨gb136, 2, none⟩ = some (.int .i64 t132) := (blk_cell BK136.out 2).trans rfl; have hcz143_3 : w142.cell? ⟨gb136, 3, none⟩ = some (.int .i64 t133) := (blk_cell BK136.out 3).trans rfl; have hfz143_0 := blk_frozen BK136.out 0; have hfz143_1 := blk_frozen BK136.out 1; have hfz143_2 := blk_frozen BK136.out 2; have hfz143_3 := blk_frozen BK136.out 3))
    go_ret
    exact ⟨by first | rfl | (simp [errW_none, errW_some] <;> rfl) | (simp only [← hji11, ← hji13]; first | rfl | (simp [errW_none, errW_some] <;> rfl)) | (simp [*, errW_none, errW_some] <;> rfl), by repeat (first | (with_reducible first | exact HB.out | apply below_alloc | apply pw_below_drewN | apply below_drew1 | refine below_set ?_ GE136.out) | exact HB.out)⟩
  rw [if_pos c124] at H
  have c124b0 : (t167 == t131) = true := beq_iff_eq.mpr c124
  have c124b1 : (t167 != t131) = false := bne_eq_false_iff_eq.mpr c124
  clear c124
  have H' := Aside0.mk H
  clear H
  have hnb125 := NB165_136.out
  have hnc125 := NB136_165.out
  have hnb126 := NB165_138.out
  have hnc126 := NB138_165.out
  have hnb127 := NB165_140.out
  have hnc127 := NB140_165.out
  have hcz128_0 : wc.cell? ⟨gb165, 0, none⟩ = some (.int .i64 t162) := (blk_cell BK165.out 0).trans rfl
  have hcz128_1 : wc.cell? ⟨gb165, 1, none⟩ = some (.int .i64 t163) := (blk_cell BK165.out 1).trans rfl
  have hfz128_0 := blk_frozen BK165.out 0
  have hfz128_1 := blk_frozen BK165.out 1
  have hnb129 := NB140_136.out
  have hnc129 := NB136_140.out
  have hnb130 := NB140_138.out
  have hnc130 := NB138_140.out
  have hcz131_0 : wc.cell? ⟨gb140, 0, none⟩ = some (.int .i64 6) := (blk_cell BK140.out 0).trans rfl
  have hcz131_1 : wc.cell? ⟨gb140, 1, none⟩ = some (.int .i64 ji13) := (blk_cell BK140.out 1).trans rfl
  have hcz131_2 : wc.cell? ⟨gb140, 2, none⟩ = some (.int .i64 (-1)) := (blk_cell BK140.out 2).trans rfl
  have hfz131_0 := blk_frozen BK140.out 0
  have hfz131_1 := blk_frozen BK140.out 1
  have hfz131_2 := blk_frozen BK140.out 2
  go_wp2_with (first | ((with_reducible refine gate_callee (f := 30) rfl ?_); refine goesL_ (some 129) rfl rfl Try.func30 au28 rfl #[.slice Ao48 y150.length co48, .agg #[.int .i64 t162, .int .i64 t163], .int .i64 ji13] rfl (by (try simp only [List.map_toArray, List.map_cons, List.map_nil]); first | done | (simp only [hji13]; rfl) | rfl | (simp only [List.length_drop, List.length_take]; rfl)) ?_; (with_reducible refine (life_Fate.calls _ _ y150 t162 t163 ji13 t166 t167 t168 _ ?side1 ?side2 A121.out).mono ?_); (case side1 => repeat (first | exact (Kd.R_reads' HO_15.out).2.2 | (with_reducible refine Kd.C_alloc ?_ _) | (with_reducible refine Kd.C_drewN ?_ _) | (with_reducible refine Kd.C_drew ?_))); (case side2 => exact (Kd.R_reads' HO_15.out).2.1); rintro e w132 ⟨rfl, hb⟩; refine ⟨_, rfl, ?_⟩; have n0_ := Aside0.mk (Kd.R_below au8 hb); have n1_ := Aside0.mk (Kd.R_below au26 hb); have n2_ := Aside0.mk (blk_below (g := gb136) (o := .cells #[.int .i64 t130, .int .i64 t131, .int .i64 t132, .int .i64 t133] 26 (0, 0)) au5 hb); have n3_ := Aside0.mk (blk_below (g := gb138) (o := .cells #[.int .i64 5, .int .i64 ji11, .int .i64 (-1)] 54 (0, 0)) au2 hb); have n4_ := Aside0.mk (blk_below (g := gb140) (o := .cells #[.int .i64 6, .int .i64 ji13, .int .i64 (-1)] 54 (0, 0)) au1 hb); have n5_ := Aside0.mk (blk_below (g := gb165) (o := .cells #[.int .i64 t162, .int .i64 t163] 28 (0, 0)) (by (with_reducible repeat (first | refine blk_drewN ?_ _ | refine blk_drew ?_ | refine blk_alloc ?_ _)); exact BK165.out) hb); have n6_ := Aside0.mk (below_step au23 hb); clear HO_9; clear HO_15; clear BK136; clear BK138; clear BK140; clear BK165; clear HB; have HO_9 := n0_; have HO_15 := n1_; have BK136 := n2_; have BK138 := n3_; have BK140 := n4_; have BK165 := n5_; have HB := n6_; clear n0_ n1_ n2_ n3_ n4_ n5_ n6_; (try clear hb); (try clear hb2); (try clear hk); (try clear hi); (try clear BK165); have hnb133 := NB136_138.out; have hnc133 := NB138_136.out; have hcz134_0 : w132.cell? ⟨gb136, 0, none⟩ = some (.int .i64 t130) := (blk_cell BK136.out 0).trans rfl; have hcz134_1 : w132.cell? ⟨gb136, 1, none⟩ = some (.int .i64 t131) := (blk_cell BK136.out 1).trans rfl; have hcz134_2 : w132.cell? ⟨gb136, 2, none⟩ = some (.int .i64 t132) := (blk_cell BK136.out 2).trans rfl; have hcz134_3 : w132.cell? ⟨gb136, 3, none⟩ = some (.int .i64 t133) := (blk_cell BK136.out 3).trans rfl; have hfz134_0 := blk_frozen BK136.out 0; have hfz134_1 := blk_frozen BK136.out 1; have hfz134_2 := blk_frozen BK136.out 2; have hfz134_3 := blk_frozen BK136.out 3))
  go_meet
  case rel => exact ⟨_, H', ⟨by have := HJ16.out; have := HJ65.out; have := HJ92.out; first | omega | exact Nat.le_refl _⟩, ⟨by (with_reducible repeat (first | apply Kd.R_alloc | apply Kd.R_drewN | apply Kd.R_drew)); exact Kd.R_mono HO_9.out (fun _ hk => ⟨hk.2.1, hk.2.2⟩)⟩, ⟨by (with_reducible repeat (first | refine blk_drewN ?_ _ | refine blk_drew ?_ | refine blk_alloc ?_ _)); exact BK138.out⟩, ⟨by (with_reducible repeat (first | refine blk_drewN ?_ _ | refine blk_drew ?_ | refine blk_alloc ?_ _)); exact BK140.out⟩, ⟨by repeat (first | (with_reducible first | exact HB.out | apply below_alloc | apply pw_below_drewN | apply below_drew1 | refine below_set ?_ GE136.out | refine below_set ?_ GE138.out | refine below_set ?_ GE140.out) | exact HB.out)⟩⟩
 clear HC119
 try clear c1
 try clear c2
 try clear p2
 try clear c3
 try clear c5
 try clear c6
 try clear c7
 try clear c8
 try clear c9
 try clear c10
 try clear c11
 try clear c12
 try clear c13
 try clear c14
 try clear c15
 try clear c16
 try clear c17
 try clear c24
 try clear c27
 try clear c29
 try clear c30
 try clear c51
 try clear c52
 try clear c53
 try clear c55
 try clear c55b0
 try clear c55b1
 try clear c56
 try clear c57
 try clear c58
 try clear c60
 try clear c61
 try clear c62
 try clear c64
 try clear c65
 try clear c65b0
 try clear c65b1
 try clear c67
 try clear c68
 try clear c69
 try clear c72
 try clear c73
 try clear c74
 try clear c75
 try clear c77
 try clear c78
 try clear c80
 try clear c80b0
 try clear c80b1
 try clear c81
 try clear c82
 try clear c83
 try clear c84
 try clear c86
 try clear c87
 try clear c88
 try clear c90
 try clear c97
 try clear c98
 try clear c99
 try clear c101
 try clear c101b0
 try clear c101b1
 try clear c102
 try clear c102b0
 try clear c102b1
 try clear c103
 try clear c104
 try clear c105
 try clear c107
 try clear c108
 try clear c110
 try clear c112
 try clear c113
 try clear c114
 try clear c116
 try clear c117
 try clear c120
 try clear c122
 try clear c122b0
 try clear c122b1
 try clear c123
 try clear c123b0
 try clear c123b1
 try clear c124
 try clear c124b0
 try clear c124b1
 try clear c125
 try clear c126
 try clear c127
 try clear c129
 try clear c130
 try clear c133
 try clear c135
 try clear c136
 try clear c137
 try clear c139
 try clear c140
 try clear c144
 try clear c145
 try clear c146
 try clear c148
 try clear c149
 try clear c152
 try clear c152b0
 try clear c153
 try clear c154
 try clear c155
 try clear c157
 try clear c158
 try clear c163
 try clear c164
 try clear c165
 try clear c167
 try clear c168
 try clear hcz100_0
 try clear hcz100_1
 try clear hcz106_0
 try clear hcz106_1
 try clear hcz109_0
 try clear hcz109_1
 try clear hcz109_2
 try clear hcz109_3
 try clear hcz111_0
 try clear hcz111_1
 try clear hcz111_2
 try clear hcz115_0
 try clear hcz115_1
 try clear hcz118_0
 try clear hcz118_1
 try clear hcz118_2
 try clear hcz118_3
 try clear hcz128_0
 try clear hcz128_1
 try clear hcz131_0
 try clear hcz131_1
 try clear hcz131_2
 try clear hcz134_0
 try clear hcz134_1
 try clear hcz134_2
 try clear hcz134_3
 try clear hcz138_0
 try clear hcz138_1
 try clear hcz141_0
 try clear hcz141_1
 try clear hcz141_2
 try clear hcz143_0
 try clear hcz143_1
 try clear hcz143_2
 try clear hcz143_3
 try clear hcz147_0
 try clear hcz147_1
 try clear hcz150_0
 try clear hcz150_1
 try clear hcz150_2
 try clear hcz156_0
 try clear hcz156_1
 try clear hcz159_0
 try clear hcz159_1
 try clear hcz159_2
 try clear hcz161_0
 try clear hcz161_1
 try clear hcz162_0
 try clear hcz162_1
 try clear hcz162_2
 try clear hcz166_0
 try clear hcz166_1
 try clear hcz169_0
 try clear hcz169_1
 try clear hcz169_2
 try clear hcz171_0
 try clear hcz171_1
 try clear hcz172_0
 try clear hcz172_1
 try clear hcz172_2
 try clear hcz54_0
 try clear hcz54_1
 try clear hcz54_2
 try clear hcz54_3
 try clear hcz59_0
 try clear hcz59_1
 try clear hcz59_2
 try clear hcz59_3
 try clear hcz63_0
 try clear hcz63_1
 try clear hcz63_2
 try clear hcz63_3
 try clear hcz70_0
 try clear hcz70_1
 try clear hcz70_2
 try clear hcz70_3
 try clear hcz76_0
 try clear hcz76_1
 try clear hcz76_2
 try clear hcz76_3
 try clear hcz79_0
 try clear hcz79_1
 try clear hcz79_2
 try clear hcz85_0
 try clear hcz85_1
 try clear hcz85_2
 try clear hcz85_3
 try clear hcz89_0
 try clear hcz89_1
 try clear hcz89_2
 try clear hcz89_3
 try clear hfz100_0
 try clear hfz100_1
 try clear hfz106_0
 try clear hfz106_1
 try clear hfz109_0
 try clear hfz109_1
 try clear hfz109_2
 try clear hfz109_3
 try clear hfz111_0
 try clear hfz111_1
 try clear hfz111_2
 try clear hfz115_0
 try clear hfz115_1
 try clear hfz118_0
 try clear hfz118_1
 try clear hfz118_2
 try clear hfz118_3
 try clear hfz128_0
 try clear hfz128_1
 try clear hfz131_0
 try clear hfz131_1
 try clear hfz131_2
 try clear hfz134_0
 try clear hfz134_1
 try clear hfz134_2
 try clear hfz134_3
 try clear hfz138_0
 try clear hfz138_1
 try clear hfz141_0
 try clear hfz141_1
 try clear hfz141_2
 try clear hfz143_0
 try clear hfz143_1
 try clear hfz143_2
 try clear hfz143_3
 try clear hfz147_0
 try clear hfz147_1
 try clear hfz150_0
 try clear hfz150_1
 try clear hfz150_2
 try clear hfz156_0
 try clear hfz156_1
 try clear hfz159_0
 try clear hfz159_1
 try clear hfz159_2
 try clear hfz161_0
 try clear hfz161_1
 try clear hfz162_0
 try clear hfz162_1
 try clear hfz162_2
 try clear hfz166_0
 try clear hfz166_1
 try clear hfz169_0
 try clear hfz169_1
 try clear hfz169_2
 try clear hfz171_0
 try clear hfz171_1
 try clear hfz172_0
 try clear hfz172_1
 try clear hfz172_2
 try clear hfz54_0
 try clear hfz54_1
 try clear hfz54_2
 try clear hfz54_3
 try clear hfz59_0
 try clear hfz59_1
 try clear hfz59_2
 try clear hfz59_3
 try clear hfz63_0
 try clear hfz63_1
 try clear hfz63_2
 try clear hfz63_3
 try clear hfz70_0
 try clear hfz70_1
 try clear hfz70_2
 try clear hfz70_3
 try clear hfz76_0
 try clear hfz76_1
 try clear hfz76_2
 try clear hfz76_3
 try clear hfz79_0
 try clear hfz79_1
 try clear hfz79_2
 try clear hfz85_0
 try clear hfz85_1
 try clear hfz85_2
 try clear hfz85_3
 try clear hfz89_0
 try clear hfz89_1
 try clear hfz89_2
 try clear hfz89_3
 try clear p2
 obtain ⟨kq, HA, HJ118, HO_9, BK138, BK140, HB⟩ := hcut
 obtain _ | kj118 := kq
 · exact absurd HA.out (by simp [dialtonelaw14_LifeRestores.j3])
 have H := HA.out
 clear HA
 simp only [dialtonelaw14_LifeRestores.j3] at H
 by_cases c173 : (wrap64 (ji11 + 2592000)) > 10000000
 · rw [if_pos c173] at H
   have c173b0 : decide (10000000 < (wrap64 (ji11 + 2592000))) = true := decide_eq_true c173
   clear c173
   obtain rfl := Option.some.inj H
   have hnb174 := NB138_140.out
   have hnc174 := NB140_138.out
   have hcz175_0 : wc.cell? ⟨gb138, 0, none⟩ = some (.int .i64 5) := (blk_cell BK138.out 0).trans rfl
   have hcz175_1 : wc.cell? ⟨gb138, 1, none⟩ = some (.int .i64 ji11) := (blk_cell BK138.out 1).trans rfl
   have hcz175_2 : wc.cell? ⟨gb138, 2, none⟩ = some (.int .i64 (-1)) := (blk_cell BK138.out 2).trans rfl
   have hfz175_0 := blk_frozen BK138.out 0
   have hfz175_1 := blk_frozen BK138.out 1
   have hfz175_2 := blk_frozen BK138.out 2
   go_wp2_with (first | ((with_reducible refine gate_dst (N := 25) rfl ?_); (try (refine gate_guard (by rfl) ?_; dsimp only)); refine box_event ?hg (N := 25) ?hd (cs := #[.int .i64 0, .int .i64 0, .int .i64 0]) (t := 54) ?hr ?_; (case hd => rfl); (case hg => rfl); (case hr => first | (go_simp; done) | (go_simp; rfl)); intro gb169 hg w176 hbox hb; have n0_ := Aside0.mk (Kd.R_below (Kd.R_elderB au8 gb169 (Nat.le_of_eq hg.symm)) hb); have n1_ := Aside0.mk (blk_below (g := gb138) (o := .cells #[.int .i64 5, .int .i64 ji11, .int .i64 (-1)] 54 (0, 0)) au2 hb); have n2_ := Aside0.mk (blk_below (g := gb140) (o := .cells #[.int .i64 6, .int .i64 ji13, .int .i64 (-1)] 54 (0, 0)) au1 hb); have n3_ := Aside0.mk (below_step au24 hb); have n4_ := Aside0.mk (hbox); have n5_ := Aside0.mk ((by rw [hg]; exact (below_size au24) : w.heap.size ≤ gb169)); have n6_ := Aside0.mk ((by rw [hg]; exact (below_size au24) : w.heap.size ≤ gb169)); have n7_ := Aside0.mk ((by rw [hg]; exact Nat.ne_of_lt (blk_lt (g := gb138) (o := .cells #[.int .i64 5, .int .i64 ji11, .int .i64 (-1)] 54 (0, 0)) au2) : gb138 ≠ gb169)); have n8_ := Aside0.mk ((by rw [hg]; exact Nat.ne_of_gt (blk_lt (g := gb138) (o := .cells #[.int .i64 5, .int .i64 ji11, .int .i64 (-1)] 54 (0, 0)) au2) : gb169 ≠ gb138)); have n9_ := Aside0.mk ((by rw [hg]; exact Nat.ne_of_lt (blk_lt (g := gb140) (o := .cells #[.int .i64 6, .int .i64 ji13, .int .i64 (-1)] 54 (0, 0)) au1) : gb140 ≠ gb169)); have n10_ := Aside0.mk ((by rw [hg]; exact Nat.ne_of_gt (blk_lt (g := gb140) (o := .cells #[.int .i64 6, .int .i64 ji13, .int .i64 (-1)] 54 (0, 0)) au1) : gb169 ≠ gb140)); clear HO_9; clear BK138; clear BK140; clear HB; have HO_9 := n0_; have BK138 := n1_; have BK140 := n2_; have HB := n3_; have BK169 := n4_; have GW169 := n5_; have GE169 := n6_; have NB138_169 := n7_; have NB169_138 := n8_; have NB140_169 := n9_; have NB169_140 := n10_; clear n0_ n1_ n2_ n3_ n4_ n5_ n6_ n7_ n8_ n9_ n10_; clear hb hbox hg; (try clear BK138); (try clear BK140); have hcz177_0 : w176.cell? ⟨gb169, 0, none⟩ = some (.int .i64 0) := (blk_cell BK169.out 0).trans rfl; have hcz177_1 : w176.cell? ⟨gb169, 1, none⟩ = some (.int .i64 0) := (blk_cell BK169.out 1).trans rfl; have hcz177_2 : w176.cell? ⟨gb169, 2, none⟩ = some (.int .i64 0) := (blk_cell BK169.out 2).trans rfl; have hfz177_0 := blk_frozen BK169.out 0; have hfz177_1 := blk_frozen BK169.out 1; have hfz177_2 := blk_frozen BK169.out 2))
   go_ret
   exact ⟨by first | rfl | (simp [errW_none, errW_some] <;> rfl) | (simp only [← hji11, ← hji13]; first | rfl | (simp [errW_none, errW_some] <;> rfl)) | (simp [*, errW_none, errW_some] <;> rfl), by repeat (first | (with_reducible first | exact HB.out | apply below_alloc | apply pw_below_drewN | apply below_drew1 | refine below_set ?_ GE169.out) | exact HB.out)⟩
 rw [if_neg c173] at H
 have c173b0 : decide (10000000 < (wrap64 (ji11 + 2592000))) = false := decide_eq_false c173
 clear c173
 obtain ⟨y170, hy170⟩ : ∃ y_ : List (S54), y_ = (([] : List (S54))) := ⟨_, rfl⟩
 replace H : (if y170.length + t127.length < 5864062014805 then ((some (y170 ++ t127 : List (S54))).bind fun y173 => ((some (([(⟨5, ji11, (-1)⟩ : S54), (⟨7, wrap64 (ji11 + 2592000), (-1)⟩ : S54)] : List (S54)) : List (S54))).bind fun y176 => (if y173.length + y176.length < 5864062014805 then ((some (y173 ++ y176 : List (S54))).bind fun y179 => ((life_Run.f y179).bind fun bt182 => (if y179.length < 5864062014805 then ((life_Run.f (y179 ++ [(⟨6, wrap64 (ji11 + 2592000), (-1)⟩ : S54)])).bind fun bt192 => (if bt182.2.2.2.2.2 = 0 then (if bt192.2.2.2.2.2 = 140 then (some (bt192.2.2.2.2.1 == (y179.length : Int))) else (some false)) else (some false))) else (none)))) else (none)))) else (none)) = some r := by first | (rw [hy170]; with_reducible exact H) | (have H2_ := (Option.bind_some _ _).symm.trans H; rw [hy170]; with_reducible exact H2_) | (have H2_ := (Option.bind_some _ _).symm.trans H; with_reducible exact H2_) | with_reducible exact H | (rw [hy170]; exact H) | exact H
 have Ny170 := Aside0.mk hy170
 clear hy170
 by_cases c178 : y170.length + t127.length < 5864062014805
 rotate_left
 · rw [if_neg c178] at H
   exact absurd H (by simp)
 rw [if_pos c178] at H
 have LMc178 := Aside0.mk c178
 clear c178
 obtain ⟨y173, hy173⟩ : ∃ y_ : List (S54), y_ = (y170 ++ t127) := ⟨_, rfl⟩
 replace H : ((some (([(⟨5, ji11, (-1)⟩ : S54), (⟨7, wrap64 (ji11 + 2592000), (-1)⟩ : S54)] : List (S54)) : List (S54))).bind fun y176 => (if y173.length + y176.length < 5864062014805 then ((some (y173 ++ y176 : List (S54))).bind fun y179 => ((life_Run.f y179).bind fun bt182 => (if y179.length < 5864062014805 then ((life_Run.f (y179 ++ [(⟨6, wrap64 (ji11 + 2592000), (-1)⟩ : S54)])).bind fun bt192 => (if bt182.2.2.2.2.2 = 0 then (if bt192.2.2.2.2.2 = 140 then (some (bt192.2.2.2.2.1 == (y179.length : Int))) else (some false)) else (some false))) else (none)))) else (none))) = some r := by first | (rw [hy173]; with_reducible exact H) | (have H2_ := (Option.bind_some _ _).symm.trans H; rw [hy173]; with_reducible exact H2_) | (have H2_ := (Option.bind_some _ _).symm.trans H; with_reducible exact H2_) | with_reducible exact H | (rw [hy173]; exact H) | exact H
 have Ny173 := Aside0.mk hy173
 clear hy173
 obtain ⟨y176, hy176⟩ : ∃ y_ : List (S54), y_ = (([(⟨5, ji11, (-1)⟩ : S54), (⟨7, wrap64 (ji11 + 2592000), (-1)⟩ : S54)] : List (S54))) := ⟨_, rfl⟩
 replace H : (if y173.length + y176.length < 5864062014805 then ((some (y173 ++ y176 : List (S54))).bind fun y179 => ((life_Run.f y179).bind fun bt182 => (if y179.length < 5864062014805 then ((life_Run.f (y179 ++ [(⟨6, wrap64 (ji11 + 2592000), (-1)⟩ : S54)])).bind fun bt192 => (if bt182.2.2.2.2.2 = 0 then (if bt192.2.2.2.2.2 = 140 then (some (bt192.2.2.2.2.1 == (y179.length : Int))) else (some false)) else (some false))) else (none)))) else (none)) = some r := by first | (rw [hy176]; with_reducible exact H) | (have H2_ := (Option.bind_some _ _).symm.trans H; rw [hy176]; with_reducible exact H2_) | (have H2_ := (Option.bind_some _ _).symm.trans H; with_reducible exact H2_) | with_reducible exact H | (rw [hy176]; exact H) | exact H
 have Ny176 := Aside0.mk hy176
 clear hy176
 by_cases c179 : y173.length + y176.length < 5864062014805
 rotate_left
 · rw [if_neg c179] at H
   exact absurd H (by simp)
 rw [if_pos c179] at H
 have LMc179 := Aside0.mk c179
 clear c179
 obtain ⟨y179, hy179⟩ : ∃ y_ : List (S54), y_ = (y173 ++ y176) := ⟨_, rfl⟩
 replace H : ((life_Run.f y179).bind fun bt182 => (if y179.length < 5864062014805 then ((life_Run.f (y179 ++ [(⟨6, wrap64 (ji11 + 2592000), (-1)⟩ : S54)])).bind fun bt192 => (if bt182.2.2.2.2.2 = 0 then (if bt192.2.2.2.2.2 = 140 then (some (bt192.2.2.2.2.1 == (y179.length : Int))) else (some false)) else (some false))) else (none))) = some r := by first | (rw [hy179]; with_reducible exact H) | (have H2_ := (Option.bind_some _ _).symm.trans H; rw [hy179]; with_reducible exact H2_) | (have H2_ := (Option.bind_some _ _).symm.trans H; with_reducible exact H2_) | with_reducible exact H | (rw [hy179]; exact H) | exact H
 have Ny179 := Aside0.mk hy179
 clear hy179
 replace H := Option.bind_eq_some_iff.mp H
 obtain ⟨⟨t182, t183, t184, t185, t186, t187⟩, A1800, H⟩ := H
 replace H : (if y179.length < 5864062014805 then ((life_Run.f (y179 ++ [(⟨6, wrap64 (ji11 + 2592000), (-1)⟩ : S54)])).bind fun bt192 => (if t187 = 0 then (if bt192.2.2.2.2.2 = 140 then (some (bt192.2.2.2.2.1 == (y179.length : Int))) else (some false)) else (some false))) else (none)) = some r := H
 have A180 := Aside0.mk A1800
 clear A1800
 by_cases c181 : y179.length < 5864062014805
 rotate_left
 · rw [if_neg c181] at H
   exact absurd H (by simp)
 rw [if_pos c181] at H
 have LMc181 := Aside0.mk c181
 clear c181
 obtain ⟨y189, hy189⟩ : ∃ y_ : List (S54), y_ = (y179 ++ [(⟨6, wrap64 (ji11 + 2592000), (-1)⟩ : S54)]) := ⟨_, rfl⟩
 replace H : ((life_Run.f y189).bind fun bt192 => (if t187 = 0 then (if bt192.2.2.2.2.2 = 140 then (some (bt192.2.2.2.2.1 == (y179.length : Int))) else (some false)) else (some false))) = some r := by first | (rw [hy189]; with_reducible exact H) | (have H2_ := (Option.bind_some _ _).symm.trans H; rw [hy189]; with_reducible exact H2_) | (have H2_ := (Option.bind_some _ _).symm.trans H; with_reducible exact H2_) | with_reducible exact H | (rw [hy189]; exact H) | exact H
 have Ny189 := Aside0.mk hy189
 clear hy189
 replace H := Option.bind_eq_some_iff.mp H
 obtain ⟨⟨t192, t193, t194, t195, t196, t197⟩, A1820, H⟩ := H
 replace H : (if t187 = 0 then (if t197 = 140 then (some (t196 == (y179.length : Int))) else (some false)) else (some false)) = some r := H
 have A182 := Aside0.mk A1820
 clear A1820
 have HZ := Aside0.mk H
 clear H
 have hnb185 := NB138_140.out
 have hnc185 := NB140_138.out
 have hcz186_0 : wc.cell? ⟨gb138, 0, none⟩ = some (.int .i64 5) := (blk_cell BK138.out 0).trans rfl
 have hcz186_1 : wc.cell? ⟨gb138, 1, none⟩ = some (.int .i64 ji11) := (blk_cell BK138.out 1).trans rfl
 have hcz186_2 : wc.cell? ⟨gb138, 2, none⟩ = some (.int .i64 (-1)) := (blk_cell BK138.out 2).trans rfl
 have hfz186_0 := blk_frozen BK138.out 0
 have hfz186_1 := blk_frozen BK138.out 1
 have hfz186_2 := blk_frozen BK138.out 2
 try go_wp2_with (first | ((with_reducible refine gate_dst (N := 25) rfl ?_); (try (refine gate_guard (by rfl) ?_; dsimp only)); refine box_event ?hg (N := 25) ?hd (cs := #[.int .i64 0, .int .i64 0, .int .i64 0]) (t := 54) ?hr ?_; (case hd => rfl); (case hg => rfl); (case hr => first | (go_simp; done) | (go_simp; rfl)); intro gb169 hg w187 hbox hb; have n0_ := Aside0.mk (Kd.R_below (Kd.R_elderB au8 gb169 (Nat.le_of_eq hg.symm)) hb); have n1_ := Aside0.mk (blk_below (g := gb138) (o := .cells #[.int .i64 5, .int .i64 ji11, .int .i64 (-1)] 54 (0, 0)) au2 hb); have n2_ := Aside0.mk (blk_below (g := gb140) (o := .cells #[.int .i64 6, .int .i64 ji13, .int .i64 (-1)] 54 (0, 0)) au1 hb); have n3_ := Aside0.mk (below_step au24 hb); have n4_ := Aside0.mk (hbox); have n5_ := Aside0.mk ((by rw [hg]; exact (below_size au24) : w.heap.size ≤ gb169)); have n6_ := Aside0.mk ((by rw [hg]; exact (below_size au24) : w.heap.size ≤ gb169)); have n7_ := Aside0.mk ((by rw [hg]; exact Nat.ne_of_lt (blk_lt (g := gb138) (o := .cells #[.int .i64 5, .int .i64 ji11, .int .i64 (-1)] 54 (0, 0)) au2) : gb138 ≠ gb169)); have n8_ := Aside0.mk ((by rw [hg]; exact Nat.ne_of_gt (blk_lt (g := gb138) (o := .cells #[.int .i64 5, .int .i64 ji11, .int .i64 (-1)] 54 (0, 0)) au2) : gb169 ≠ gb138)); have n9_ := Aside0.mk ((by rw [hg]; exact Nat.ne_of_lt (blk_lt (g := gb140) (o := .cells #[.int .i64 6, .int .i64 ji13, .int .i64 (-1)] 54 (0, 0)) au1) : gb140 ≠ gb169)); have n10_ := Aside0.mk ((by rw [hg]; exact Nat.ne_of_gt (blk_lt (g := gb140) (o := .cells #[.int .i64 6, .int .i64 ji13, .int .i64 (-1)] 54 (0, 0)) au1) : gb169 ≠ gb140)); clear HO_9; clear BK138; clear BK140; clear HB; have HO_9 := n0_; have BK138 := n1_; have BK140 := n2_; have HB := n3_; have BK169 := n4_; have GW169 := n5_; have GE169 := n6_; have NB138_169 := n7_; have NB169_138 := n8_; have NB140_169 := n9_; have NB169_140 := n10_; clear n0_ n1_ n2_ n3_ n4_ n5_ n6_ n7_ n8_ n9_ n10_; clear hb hbox hg; have hnb188 := NB169_138.out; have hnc188 := NB138_169.out; have hnb189 := NB169_140.out; have hnc189 := NB140_169.out; have hcz190_0 : w187.cell? ⟨gb169, 0, none⟩ = some (.int .i64 0) := (blk_cell BK169.out 0).trans rfl; have hcz190_1 : w187.cell? ⟨gb169, 1, none⟩ = some (.int .i64 0) := (blk_cell BK169.out 1).trans rfl; have hcz190_2 : w187.cell? ⟨gb169, 2, none⟩ = some (.int .i64 0) := (blk_cell BK169.out 2).trans rfl; have hfz190_0 := blk_frozen BK169.out 0; have hfz190_1 := blk_frozen BK169.out 1; have hfz190_2 := blk_frozen BK169.out 2))
 have n0_ : Aside0 (Kd.R k54 54 (((w187.setCell ⟨gb169, 0, none⟩ (.int .i64 7)).setCell ⟨gb169, 1, none⟩ (.int .i64 (wrap64 (ji11 + 2592000)))).setCell ⟨gb169, 2, none⟩ (.int .i64 (-1))) w.heap.size (fun k_ => k_ ≠ gb138 ∧ k_ ≠ gb140 ∧ k_ ≠ gb169) (.slice Ao20 t127.length co20) t127) := ⟨by (with_reducible repeat (first | apply Kd.R_alloc | apply Kd.R_drewN | apply Kd.R_drew)); exact Kd.R_mono (Kd.R_far (p := ⟨gb169, 2, none⟩) (Kd.R_far (p := ⟨gb169, 1, none⟩) (Kd.R_far (p := ⟨gb169, 0, none⟩) (Kd.R_mono HO_9.out (fun k_ hk => (⟨hk, hk.2⟩ : _ ∧ k_ ≠ gb169))) (fun _ hk => hk.2) (.int .i64 7)) (fun _ hk => hk.2) (.int .i64 (wrap64 (ji11 + 2592000)))) (fun _ hk => hk.2) (.int .i64 (-1))) (fun _ hk => ⟨hk.1.1.1, ⟨hk.1.1.2, hk.1.2⟩⟩)⟩
 have n1_ : Aside0 ((((w187.setCell ⟨gb169, 0, none⟩ (.int .i64 7)).setCell ⟨gb169, 1, none⟩ (.int .i64 (wrap64 (ji11 + 2592000)))).setCell ⟨gb169, 2, none⟩ (.int .i64 (-1))).heap[gb138]? = some (.cells #[.int .i64 5, .int .i64 ji11, .int .i64 (-1)] 54 (0, 0))) := ⟨by (with_reducible repeat (first | refine blk_drewN ?_ _ | refine blk_drew ?_ | refine blk_alloc ?_ _)); refine blk_far ?_ NB138_169.out _; (with_reducible repeat (first | refine blk_drewN ?_ _ | refine blk_drew ?_ | refine blk_alloc ?_ _)); refine blk_far ?_ NB138_169.out _; (with_reducible repeat (first | refine blk_drewN ?_ _ | refine blk_drew ?_ | refine blk_alloc ?_ _)); refine blk_far ?_ NB138_169.out _; (with_reducible repeat (first | refine blk_drewN ?_ _ | refine blk_drew ?_ | refine blk_alloc ?_ _)); exact BK138.out⟩
 have n2_ : Aside0 ((((w187.setCell ⟨gb169, 0, none⟩ (.int .i64 7)).setCell ⟨gb169, 1, none⟩ (.int .i64 (wrap64 (ji11 + 2592000)))).setCell ⟨gb169, 2, none⟩ (.int .i64 (-1))).heap[gb140]? = some (.cells #[.int .i64 6, .int .i64 ji13, .int .i64 (-1)] 54 (0, 0))) := ⟨by (with_reducible repeat (first | refine blk_drewN ?_ _ | refine blk_drew ?_ | refine blk_alloc ?_ _)); refine blk_far ?_ NB140_169.out _; (with_reducible repeat (first | refine blk_drewN ?_ _ | refine blk_drew ?_ | refine blk_alloc ?_ _)); refine blk_far ?_ NB140_169.out _; (with_reducible repeat (first | refine blk_drewN ?_ _ | refine blk_drew ?_ | refine blk_alloc ?_ _)); refine blk_far ?_ NB140_169.out _; (with_reducible repeat (first | refine blk_drewN ?_ _ | refine blk_drew ?_ | refine blk_alloc ?_ _)); exact BK140.out⟩
 have n3_ : Aside0 ((((w187.setCell ⟨gb169, 0, none⟩ (.int .i64 7)).setCell ⟨gb169, 1, none⟩ (.int .i64 (wrap64 (ji11 + 2592000)))).setCell ⟨gb169, 2, none⟩ (.int .i64 (-1))).heap[gb169]? = some (.cells #[.int .i64 7, .int .i64 (wrap64 (ji11 + 2592000)), .int .i64 (-1)] 54 (0, 0))) := ⟨by (with_reducible repeat (first | refine blk_drewN ?_ _ | refine blk_drew ?_ | refine blk_alloc ?_ _)); refine blk_put (cs := #[.int .i64 7, .int .i64 (wrap64 (ji11 + 2592000)), .int .i64 0]) ?_ 2 _ rfl; (with_reducible repeat (first | refine blk_drewN ?_ _ | refine blk_drew ?_ | refine blk_alloc ?_ _)); refine blk_put (cs := #[.int .i64 7, .int .i64 0, .int .i64 0]) ?_ 1 _ rfl; (with_reducible repeat (first | refine blk_drewN ?_ _ | refine blk_drew ?_ | refine blk_alloc ?_ _)); refine blk_put (cs := #[.int .i64 0, .int .i64 0, .int .i64 0]) ?_ 0 _ rfl; (with_reducible repeat (first | refine blk_drewN ?_ _ | refine blk_drew ?_ | refine blk_alloc ?_ _)); exact BK169.out⟩
 have n4_ : Aside0 (Below w.heap.size w (((w187.setCell ⟨gb169, 0, none⟩ (.int .i64 7)).setCell ⟨gb169, 1, none⟩ (.int .i64 (wrap64 (ji11 + 2592000)))).setCell ⟨gb169, 2, none⟩ (.int .i64 (-1)))) := ⟨by repeat (first | (with_reducible first | exact HB.out | apply below_alloc | apply pw_below_drewN | apply below_drew1 | refine below_set ?_ GE138.out | refine below_set ?_ GE140.out | refine below_set ?_ GE169.out) | exact HB.out)⟩
 (try clear HO_9)
 (try clear BK138)
 (try clear BK140)
 (try clear BK169)
 (try clear HB)
 generalize (((w187.setCell ⟨gb169, 0, none⟩ (.int .i64 7)).setCell ⟨gb169, 1, none⟩ (.int .i64 (wrap64 (ji11 + 2592000)))).setCell ⟨gb169, 2, none⟩ (.int .i64 (-1))) = w191 at n0_ n1_ n2_ n3_ n4_ ⊢
 have HO_9 := n0_
 have BK138 := n1_
 have BK140 := n2_
 have BK169 := n3_
 have HB := n4_
 clear n0_ n1_ n2_ n3_ n4_
 have n0_ := Aside0.mk (Kd.R_drew HO_9.out)
 have n1_ := Aside0.mk (blk_drew BK138.out)
 have n2_ := Aside0.mk (blk_drew BK140.out)
 have n3_ := Aside0.mk (blk_drew BK169.out)
 have n4_ := Aside0.mk (below_drew1 HB.out)
 clear HO_9
 clear BK138
 clear BK140
 clear BK169
 clear HB
 have HO_9 := n0_
 have BK138 := n1_
 have BK140 := n2_
 have BK169 := n3_
 have HB := n4_
 clear n0_ n1_ n2_ n3_ n4_
 refine start_ (n := 8) (S := fun w' => w'.cell? ⟨gb138, 0, none⟩ = some (.int .i64 5) ∧ w'.cell? ⟨gb138, 1, none⟩ = some (.int .i64 ji11) ∧ w'.cell? ⟨gb138, 2, none⟩ = some (.int .i64 (-1)) ∧ w'.cell? ⟨gb169, 0, none⟩ = some (.int .i64 7) ∧ w'.cell? ⟨gb169, 1, none⟩ = some (.int .i64 (wrap64 (ji11 + 2592000))) ∧ w'.cell? ⟨gb169, 2, none⟩ = some (.int .i64 (-1))) (ds := []) #[false, false, false, false, false, false, false, false] au28 rfl rfl ⟨(blk_cell BK138.out 0).trans rfl, (blk_cell BK138.out 1).trans rfl, (blk_cell BK138.out 2).trans rfl, (blk_cell BK169.out 0).trans rfl, (blk_cell BK169.out 1).trans rfl, (blk_cell BK169.out 2).trans rfl⟩ (fun hHeld => ?_); refine with_tabW dialtonelaw14_LifeRestores.tab26 dialtonelaw14_LifeRestores.bits26 (fun HT_ HW_ => ?_)
 generalize w191.drew = w192 at HO_9 BK138 BK140 BK169 HB hHeld ⊢
 refine pure_ (i := 1) (N := some 164) (v := ?_) (a' := ?_) #[false, true, false, false, false, false, false, false] rfl rfl (any_of HT_.out au28) (fun _ _ _ h => h) (Or.inl ⟨by rfl, ?_⟩) ?_ ?_
 rotate_left
 · intro w'
   go_simp
   with_reducible rfl
 rotate_left
 · simp only [Act.put, List.setIfInBounds_toArray, List.set_cons_zero, List.set_cons_succ, i64_w, i32_w]
   rfl
 refine take_ (i := 3) (N := some 166) (v := ?_) (a' := ?_) #[false, true, false, true, false, false, false, false] rfl rfl (take_ofW HT_.out HW_.out au28) (fun _ _ _ h => h) (Or.inl ⟨by rfl, ?_⟩) hHeld ?_ ?_
 rotate_left
 · rintro w' ⟨s0, s1, s2, s3, s4, s5⟩
   go_simp
   with_reducible rfl
 rotate_left
 · simp only [Act.put, List.setIfInBounds_toArray, List.set_cons_zero, List.set_cons_succ, i64_w, i32_w]
   rfl
 refine take_ (i := 4) (N := some 167) (v := ?_) (a' := ?_) #[false, true, false, true, true, false, false, false] rfl rfl (take_ofW HT_.out HW_.out au28) (fun _ _ _ h => h) (Or.inl ⟨by rfl, ?_⟩) hHeld ?_ ?_
 rotate_left
 · rintro w' ⟨s0, s1, s2, s3, s4, s5⟩
   go_simp
   with_reducible rfl
 rotate_left
 · simp only [Act.put, List.setIfInBounds_toArray, List.set_cons_zero, List.set_cons_succ, i64_w, i32_w]
   rfl
 refine join_ (σ := Value × Value × Value) 2 #[true, true, true, true, true, true, false, false] (fun s_ => [(163, s_.1), (165, s_.2.1), (168, s_.2.2)]) (fun s_ w' => (w'.cell? ⟨gb138, 0, none⟩ = some (.int .i64 5) ∧ w'.cell? ⟨gb138, 1, none⟩ = some (.int .i64 ji11) ∧ w'.cell? ⟨gb138, 2, none⟩ = some (.int .i64 (-1)) ∧ w'.cell? ⟨gb169, 0, none⟩ = some (.int .i64 7) ∧ w'.cell? ⟨gb169, 1, none⟩ = some (.int .i64 (wrap64 (ji11 + 2592000))) ∧ w'.cell? ⟨gb169, 2, none⟩ = some (.int .i64 (-1))) ∧ (Kd.R k54 54 w' w.heap.size (fun k_ => some k_ ≠ (s_.2.2 : Value).ownBlock ∧ some k_ ≠ (.slice Ao20 t127.length co20 : Value).ownBlock ∧ k_ ≠ gb138 ∧ k_ ≠ gb140 ∧ k_ ≠ gb169) s_.2.1 y173) ∧ (Kd.R k54 54 w' w.heap.size (fun k_ => some k_ ≠ (s_.2.1 : Value).ownBlock ∧ some k_ ≠ (.slice Ao20 t127.length co20 : Value).ownBlock ∧ k_ ≠ gb138 ∧ k_ ≠ gb140 ∧ k_ ≠ gb169) s_.2.2 y176) ∧ (Kd.R k54 54 w' w.heap.size (fun k_ => some k_ ≠ (s_.2.1 : Value).ownBlock ∧ some k_ ≠ (s_.2.2 : Value).ownBlock ∧ k_ ≠ gb138 ∧ k_ ≠ gb140 ∧ k_ ≠ gb169) (.slice Ao20 t127.length co20) t127) ∧ (w'.heap[gb138]? = some (.cells #[.int .i64 5, .int .i64 ji11, .int .i64 (-1)] 54 (0, 0))) ∧ (w'.heap[gb140]? = some (.cells #[.int .i64 6, .int .i64 ji13, .int .i64 (-1)] 54 (0, 0))) ∧ (w'.heap[gb169]? = some (.cells #[.int .i64 7, .int .i64 (wrap64 (ji11 + 2592000)), .int .i64 (-1)] 54 (0, 0))) ∧ (Below w.heap.size w w')) ?_ ?_
 rotate_left
 · intro hCont
   refine two_ (i := 0) (j := 5) (Ni := some 163) (Nj := some 168) #[true, true, false, true, true, false, false, false] #[false, true, false, true, true, true, false, false] rfl rfl rfl rfl (two_of HT_.out au28) (by decide) (by decide) (fun K hK => ?_) (fun K hK => ?_)
   · skip
     refine Kd.R_lit_step k54 _ 54 ?hg (N := 163) ?hd (xs := ([] : List (S54))) (inner := []) (ok := fun _ => True) (okp := fun _ => True) ?hr ?hp (fun _ hk => hk) trivial (Below.refl _ _) (Nat.le_refl _) (by simp) ?_; (case hd => rfl); (case hg => rfl); (case hr => first | (go_simp; done) | (go_simp; rfl)); (case hp => exact (Reps.none _ _))
     intro v171 w193 ho194 hb hg_ hnew_
     clear hg_ hnew_
     (first | rw [← Ny170.out] at ho194 | (simp only [Int.reduceToNat] at ho194; rw [← Ny170.out] at ho194))
     have n0_ := Aside0.mk (Kd.R_elder' au8 (Kd.R_base ho194) hb)
     have n1_ := Aside0.mk (Kd.R_lower (Kd.R_newB (Kd.R_newB (Kd.R_newB (Kd.R_new' ho194 (Kd.R_lt au8)) (g := gb138) (o := .cells #[.int .i64 5, .int .i64 ji11, .int .i64 (-1)] 54 (0, 0)) au2) (g := gb140) (o := .cells #[.int .i64 6, .int .i64 ji13, .int .i64 (-1)] 54 (0, 0)) au1) (g := gb169) (o := .cells #[.int .i64 7, .int .i64 (wrap64 (ji11 + 2592000)), .int .i64 (-1)] 54 (0, 0)) au9) (below_size au4))
     have n2_ := Aside0.mk (blk_below (g := gb138) (o := .cells #[.int .i64 5, .int .i64 ji11, .int .i64 (-1)] 54 (0, 0)) au2 hb)
     have n3_ := Aside0.mk (blk_below (g := gb140) (o := .cells #[.int .i64 6, .int .i64 ji13, .int .i64 (-1)] 54 (0, 0)) au1 hb)
     have n4_ := Aside0.mk (blk_below (g := gb169) (o := .cells #[.int .i64 7, .int .i64 (wrap64 (ji11 + 2592000)), .int .i64 (-1)] 54 (0, 0)) au9 hb)
     have n5_ := Aside0.mk (below_step au4 hb)
     clear HO_9
     clear BK138
     clear BK140
     clear BK169
     clear HB
     have HO_9 := n0_
     have HO172 := n1_
     have BK138 := n2_
     have BK140 := n3_
     have BK169 := n4_
     have HB := n5_
     clear n0_ n1_ n2_ n3_ n4_ n5_
     clear hb ho194
     refine hK.out _ _ ⟨(blk_cell BK138.out 0).trans rfl, (blk_cell BK138.out 1).trans rfl, (blk_cell BK138.out 2).trans rfl, (blk_cell BK169.out 0).trans rfl, (blk_cell BK169.out 1).trans rfl, (blk_cell BK169.out 2).trans rfl⟩ (fun hHeld => ?_)
     clear hK K
     refine norm_ (a' := ?_) ?_ ?_
     rotate_left
     · show Act.put _ (some 163) _ = _
       simp only [Act.put, List.setIfInBounds_toArray, List.set_cons_zero, List.set_cons_succ, i64_w, i32_w]
       rfl
     refine two_ (i := 2) (j := 5) (Ni := some 165) (Nj := some 168) #[true, true, true, true, true, false, false, false] #[true, true, false, true, true, true, false, false] rfl rfl rfl rfl (two_of HT_.out au28) (by decide) (by decide) (fun K hK => ?_) (fun K hK => ?_)
     · skip
       refine Kd.R_append_rows_step k54 (w0 := w) w.heap.size (by rfl) (.tmp 163) (.tmp 164) 24 54 (.agg #[(.int .i64 0), (.int .i64 0), (.int .i64 0)]) 24 rfl Try.underlying24 info54 rfl (by decide) (by omega) v171 y170 t127 _ _ _ (fun k_ => some k_ ≠ (.slice Ao20 t127.length co20 : Value).ownBlock ∧ k_ ≠ gb138 ∧ k_ ≠ gb140 ∧ k_ ≠ gb169) (fun _ => False) rfl rfl ?aO ?aR (fun _ _ h => h) (fun _ h => h.elim) ?aF ?aB ?aS ?aL ?_
       (case aR => repeat (first | exact (Kd.R_reads' HO_9.out).2.2 | (with_reducible refine Kd.C_alloc ?_ _) | (with_reducible refine Kd.C_drewN ?_ _) | (with_reducible refine Kd.C_drew ?_)))
       (case aB => exact au4)
       (case aF => exact (fun k_ hk => ⟨Kd.fresh' (Kd.R_lt au8) k_ hk, Kd.freshB (g := gb138) (o := .cells #[.int .i64 5, .int .i64 ji11, .int .i64 (-1)] 54 (0, 0)) au2 k_ hk, Kd.freshB (g := gb140) (o := .cells #[.int .i64 6, .int .i64 ji13, .int .i64 (-1)] 54 (0, 0)) au1 k_ hk, Kd.freshB (g := gb169) (o := .cells #[.int .i64 7, .int .i64 (wrap64 (ji11 + 2592000)), .int .i64 (-1)] 54 (0, 0)) au9 k_ hk⟩))
       (case aO => exact (by (with_reducible repeat (first | apply Kd.R_alloc | apply Kd.R_drewN | apply Kd.R_drew)); exact Kd.R_mono HO172.out (fun _ hk => ⟨hk.1.1.1.2, ⟨hk.1.1.2, ⟨hk.1.2, hk.2⟩⟩⟩)))
       (case aS => exact (below_size au4))
       (case aL => have := LMc178.out; omega)
       intro v174 w195 ho hb hg hat
       rw [← Ny173.out] at ho
       have n0_ := Aside0.mk (Kd.R_after (ok := (fun k_ => k_ ≠ gb138 ∧ k_ ≠ gb140 ∧ k_ ≠ gb169)) au8 hg hat)
       have n1_ := Aside0.mk (blk_grown (g := gb138) (o := .cells #[.int .i64 5, .int .i64 ji11, .int .i64 (-1)] 54 (0, 0)) au2 hg (Kd.R_away HO172.out (fun _ hk => hk.1.1.2)))
       have n2_ := Aside0.mk (blk_grown (g := gb140) (o := .cells #[.int .i64 6, .int .i64 ji13, .int .i64 (-1)] 54 (0, 0)) au1 hg (Kd.R_away HO172.out (fun _ hk => hk.1.2)))
       have n3_ := Aside0.mk (blk_grown (g := gb169) (o := .cells #[.int .i64 7, .int .i64 (wrap64 (ji11 + 2592000)), .int .i64 (-1)] 54 (0, 0)) au9 hg (Kd.R_away HO172.out (fun _ hk => hk.2)))
       have n4_ := Aside0.mk (hb)
       have n5_ := Aside0.mk (ho)
       clear HO_9
       clear BK138
       clear BK140
       clear BK169
       clear HB
       clear HO172
       have HO_9 := n0_
       have BK138 := n1_
       have BK140 := n2_
       have BK169 := n3_
       have HB := n4_
       have HO175 := n5_
       clear n0_ n1_ n2_ n3_ n4_ n5_
       clear ho hb hg hat
       refine hK.out _ _ ⟨(blk_cell BK138.out 0).trans rfl, (blk_cell BK138.out 1).trans rfl, (blk_cell BK138.out 2).trans rfl, (blk_cell BK169.out 0).trans rfl, (blk_cell BK169.out 1).trans rfl, (blk_cell BK169.out 2).trans rfl⟩ (fun hHeld => ?_)
       clear hK K
       refine norm_ (a' := ?_) ?_ ?_
       rotate_left
       · show Act.put _ (some 165) _ = _
         simp only [Act.put, List.setIfInBounds_toArray, List.set_cons_zero, List.set_cons_succ, i64_w, i32_w]
         rfl
       refine one_ (i := 5) (N := some 168) #[true, true, true, true, true, true, false, false] rfl rfl (one_of HT_.out au28) (by decide) (fun K hK => ?_)
       refine Kd.R_lit_step k54 _ 54 ?hg (N := 168) ?hd (xs := ([(⟨5, ji11, (-1)⟩ : S54), (⟨7, wrap64 (ji11 + 2592000), (-1)⟩ : S54)] : List (S54))) (inner := [.int .i64 5, .int .i64 ji11, .int .i64 (-1), .int .i64 7, .int .i64 (wrap64 (ji11 + 2592000)), .int .i64 (-1)]) (ok := fun _ => True) (okp := fun _ => True) ?hr ?hp (fun _ hk => hk) trivial (Below.refl _ _) (Nat.le_refl _) (by simp) ?_; (case hd => rfl); (case hg => rfl); (case hr => first | (go_simp; done) | (go_simp; rfl)); (case hp => exact (Reps.c3 (show Kd.M k54 _ _ _ (⟨5, ji11, (-1)⟩ : S54) [.int .i64 5, .int .i64 ji11, .int .i64 (-1)] from (k54_mkM _ _ _ (⟨5, ji11, (-1)⟩ : S54) )) (Reps.c3 (show Kd.M k54 _ _ _ (⟨7, wrap64 (ji11 + 2592000), (-1)⟩ : S54) [.int .i64 7, .int .i64 (wrap64 (ji11 + 2592000)), .int .i64 (-1)] from (k54_mkM _ _ _ (⟨7, wrap64 (ji11 + 2592000), (-1)⟩ : S54) )) (Reps.none _ _))))
       intro v177 w196 ho197 hb hg_ hnew_
       clear hg_ hnew_
       (first | rw [← Ny176.out] at ho197 | (simp only [Int.reduceToNat] at ho197; rw [← Ny176.out] at ho197))
       have n0_ := Aside0.mk (Kd.R_elder' au8 (Kd.R_base ho197) hb)
       have n1_ := Aside0.mk (Kd.R_elder' (by (with_reducible repeat (first | apply Kd.R_alloc | apply Kd.R_drewN | apply Kd.R_drew)); exact HO175.out) (Kd.R_base ho197) hb)
       have n2_ := Aside0.mk (Kd.R_lower (Kd.R_newB (Kd.R_newB (Kd.R_newB (Kd.R_new' (Kd.R_new' ho197 (Kd.R_lt au8)) (Kd.R_lt (by (with_reducible repeat (first | apply Kd.R_alloc | apply Kd.R_drewN | apply Kd.R_drew)); exact HO175.out))) (g := gb138) (o := .cells #[.int .i64 5, .int .i64 ji11, .int .i64 (-1)] 54 (0, 0)) au2) (g := gb140) (o := .cells #[.int .i64 6, .int .i64 ji13, .int .i64 (-1)] 54 (0, 0)) au1) (g := gb169) (o := .cells #[.int .i64 7, .int .i64 (wrap64 (ji11 + 2592000)), .int .i64 (-1)] 54 (0, 0)) au9) (below_size au4))
       have n3_ := Aside0.mk (blk_below (g := gb138) (o := .cells #[.int .i64 5, .int .i64 ji11, .int .i64 (-1)] 54 (0, 0)) au2 hb)
       have n4_ := Aside0.mk (blk_below (g := gb140) (o := .cells #[.int .i64 6, .int .i64 ji13, .int .i64 (-1)] 54 (0, 0)) au1 hb)
       have n5_ := Aside0.mk (blk_below (g := gb169) (o := .cells #[.int .i64 7, .int .i64 (wrap64 (ji11 + 2592000)), .int .i64 (-1)] 54 (0, 0)) au9 hb)
       have n6_ := Aside0.mk (below_step au4 hb)
       clear HO_9
       clear HO175
       clear BK138
       clear BK140
       clear BK169
       clear HB
       have HO_9 := n0_
       have HO175 := n1_
       have HO178 := n2_
       have BK138 := n3_
       have BK140 := n4_
       have BK169 := n5_
       have HB := n6_
       clear n0_ n1_ n2_ n3_ n4_ n5_ n6_
       clear hb ho197
       refine hK.out _ _ ⟨(blk_cell BK138.out 0).trans rfl, (blk_cell BK138.out 1).trans rfl, (blk_cell BK138.out 2).trans rfl, (blk_cell BK169.out 0).trans rfl, (blk_cell BK169.out 1).trans rfl, (blk_cell BK169.out 2).trans rfl⟩ (fun hHeld => ?_)
       clear hK K
       refine norm_ (a' := ?_) ?_ ?_
       rotate_left
       · show Act.put _ (some 168) _ = _
         simp only [Act.put, List.setIfInBounds_toArray, List.set_cons_zero, List.set_cons_succ, i64_w, i32_w]
         rfl
       exact norm_ au25 (hCont (v171, v174, v177) _ ⟨hHeld, (by (with_reducible repeat (first | apply Kd.R_alloc | apply Kd.R_drewN | apply Kd.R_drew)); exact Kd.R_mono HO175.out (fun _ hk => ⟨hk.2, ⟨hk.1.1, ⟨hk.1.2.1, ⟨hk.1.2.2.1, hk.1.2.2.2⟩⟩⟩⟩)), (by (with_reducible repeat (first | apply Kd.R_alloc | apply Kd.R_drewN | apply Kd.R_drew)); exact Kd.R_mono HO178.out (fun _ hk => ⟨hk.1.1.1.2, ⟨hk.1.1.1.1.2, ⟨hk.1.1.2, ⟨hk.1.2, hk.2⟩⟩⟩⟩)), (by (with_reducible repeat (first | apply Kd.R_alloc | apply Kd.R_drewN | apply Kd.R_drew)); exact Kd.R_mono HO_9.out (fun _ hk => ⟨hk.1.2, ⟨hk.2, ⟨hk.1.1.1, ⟨hk.1.1.2.1, hk.1.1.2.2⟩⟩⟩⟩)), au2, au1, au9, au4⟩)
     skip
     refine Kd.R_lit_step k54 _ 54 ?hg (N := 168) ?hd (xs := ([(⟨5, ji11, (-1)⟩ : S54), (⟨7, wrap64 (ji11 + 2592000), (-1)⟩ : S54)] : List (S54))) (inner := [.int .i64 5, .int .i64 ji11, .int .i64 (-1), .int .i64 7, .int .i64 (wrap64 (ji11 + 2592000)), .int .i64 (-1)]) (ok := fun _ => True) (okp := fun _ => True) ?hr ?hp (fun _ hk => hk) trivial (Below.refl _ _) (Nat.le_refl _) (by simp) ?_; (case hd => rfl); (case hg => rfl); (case hr => first | (go_simp; done) | (go_simp; rfl)); (case hp => exact (Reps.c3 (show Kd.M k54 _ _ _ (⟨5, ji11, (-1)⟩ : S54) [.int .i64 5, .int .i64 ji11, .int .i64 (-1)] from (k54_mkM _ _ _ (⟨5, ji11, (-1)⟩ : S54) )) (Reps.c3 (show Kd.M k54 _ _ _ (⟨7, wrap64 (ji11 + 2592000), (-1)⟩ : S54) [.int .i64 7, .int .i64 (wrap64 (ji11 + 2592000)), .int .i64 (-1)] from (k54_mkM _ _ _ (⟨7, wrap64 (ji11 + 2592000), (-1)⟩ : S54) )) (Reps.none _ _))))
     intro v177 w195 ho196 hb hg_ hnew_
     clear hg_ hnew_
     (first | rw [← Ny176.out] at ho196 | (simp only [Int.reduceToNat] at ho196; rw [← Ny176.out] at ho196))
     have n0_ := Aside0.mk (Kd.R_elder' au8 (Kd.R_base ho196) hb)
     have n1_ := Aside0.mk (Kd.R_elder' (by (with_reducible repeat (first | apply Kd.R_alloc | apply Kd.R_drewN | apply Kd.R_drew)); exact HO172.out) (Kd.R_base ho196) hb)
     have n2_ := Aside0.mk (Kd.R_lower (Kd.R_newB (Kd.R_newB (Kd.R_newB (Kd.R_new' (Kd.R_new' ho196 (Kd.R_lt au8)) (Kd.R_lt (by (with_reducible repeat (first | apply Kd.R_alloc | apply Kd.R_drewN | apply Kd.R_drew)); exact HO172.out))) (g := gb138) (o := .cells #[.int .i64 5, .int .i64 ji11, .int .i64 (-1)] 54 (0, 0)) au2) (g := gb140) (o := .cells #[.int .i64 6, .int .i64 ji13, .int .i64 (-1)] 54 (0, 0)) au1) (g := gb169) (o := .cells #[.int .i64 7, .int .i64 (wrap64 (ji11 + 2592000)), .int .i64 (-1)] 54 (0, 0)) au9) (below_size au4))
     have n3_ := Aside0.mk (blk_below (g := gb138) (o := .cells #[.int .i64 5, .int .i64 ji11, .int .i64 (-1)] 54 (0, 0)) au2 hb)
     have n4_ := Aside0.mk (blk_below (g := gb140) (o := .cells #[.int .i64 6, .int .i64 ji13, .int .i64 (-1)] 54 (0, 0)) au1 hb)
     have n5_ := Aside0.mk (blk_below (g := gb169) (o := .cells #[.int .i64 7, .int .i64 (wrap64 (ji11 + 2592000)), .int .i64 (-1)] 54 (0, 0)) au9 hb)
     have n6_ := Aside0.mk (below_step au4 hb)
     clear HO_9
     clear HO172
     clear BK138
     clear BK140
     clear BK169
     clear HB
     have HO_9 := n0_
     have HO172 := n1_
     have HO178 := n2_
     have BK138 := n3_
     have BK140 := n4_
     have BK169 := n5_
     have HB := n6_
     clear n0_ n1_ n2_ n3_ n4_ n5_ n6_
     clear hb ho196
     refine hK.out _ _ ⟨(blk_cell BK138.out 0).trans rfl, (blk_cell BK138.out 1).trans rfl, (blk_cell BK138.out 2).trans rfl, (blk_cell BK169.out 0).trans rfl, (blk_cell BK169.out 1).trans rfl, (blk_cell BK169.out 2).trans rfl⟩ (fun hHeld => ?_)
     clear hK K
     refine norm_ (a' := ?_) ?_ ?_
     rotate_left
     · show Act.put _ (some 168) _ = _
       simp only [Act.put, List.setIfInBounds_toArray, List.set_cons_zero, List.set_cons_succ, i64_w, i32_w]
       rfl
     refine one_ (i := 2) (N := some 165) #[true, true, true, true, true, true, false, false] rfl rfl (one_of HT_.out au28) (by decide) (fun K hK => ?_)
     refine Kd.R_append_rows_step k54 (w0 := w) w.heap.size (by rfl) (.tmp 163) (.tmp 164) 24 54 (.agg #[(.int .i64 0), (.int .i64 0), (.int .i64 0)]) 24 rfl Try.underlying24 info54 rfl (by decide) (by omega) v171 y170 t127 _ _ _ (fun k_ => some k_ ≠ (.slice Ao20 t127.length co20 : Value).ownBlock ∧ some k_ ≠ (v177 : Value).ownBlock ∧ k_ ≠ gb138 ∧ k_ ≠ gb140 ∧ k_ ≠ gb169) (fun _ => False) rfl rfl ?aO ?aR (fun _ _ h => h) (fun _ h => h.elim) ?aF ?aB ?aS ?aL ?_
     (case aR => repeat (first | exact (Kd.R_reads' HO_9.out).2.2 | (with_reducible refine Kd.C_alloc ?_ _) | (with_reducible refine Kd.C_drewN ?_ _) | (with_reducible refine Kd.C_drew ?_)))
     (case aB => exact au4)
     (case aF => exact (fun k_ hk => ⟨Kd.fresh' (Kd.R_lt au8) k_ hk, Kd.fresh' (Kd.R_lt au14) k_ hk, Kd.freshB (g := gb138) (o := .cells #[.int .i64 5, .int .i64 ji11, .int .i64 (-1)] 54 (0, 0)) au2 k_ hk, Kd.freshB (g := gb140) (o := .cells #[.int .i64 6, .int .i64 ji13, .int .i64 (-1)] 54 (0, 0)) au1 k_ hk, Kd.freshB (g := gb169) (o := .cells #[.int .i64 7, .int .i64 (wrap64 (ji11 + 2592000)), .int .i64 (-1)] 54 (0, 0)) au9 k_ hk⟩))
     (case aO => exact (by (with_reducible repeat (first | apply Kd.R_alloc | apply Kd.R_drewN | apply Kd.R_drew)); exact Kd.R_mono HO172.out (fun _ hk => ⟨hk.1.1.1.1.2, ⟨hk.2, ⟨hk.1.1.1.2, ⟨hk.1.1.2, hk.1.2⟩⟩⟩⟩)))
     (case aS => exact (below_size au4))
     (case aL => have := LMc178.out; omega)
     intro v174 w197 ho hb hg hat
     rw [← Ny173.out] at ho
     have n0_ := Aside0.mk (Kd.R_after (ok := (fun k_ => some k_ ≠ (v177 : Value).ownBlock ∧ k_ ≠ gb138 ∧ k_ ≠ gb140 ∧ k_ ≠ gb169)) (by (with_reducible repeat (first | apply Kd.R_alloc | apply Kd.R_drewN | apply Kd.R_drew)); exact Kd.R_mono HO_9.out (fun _ hk => ⟨⟨hk.2, ⟨hk.1.1.1, ⟨hk.1.1.2.1, hk.1.1.2.2⟩⟩⟩, hk.1.2⟩)) hg hat)
     have n1_ := Aside0.mk (blk_grown (g := gb138) (o := .cells #[.int .i64 5, .int .i64 ji11, .int .i64 (-1)] 54 (0, 0)) au2 hg (Kd.R_away HO172.out (fun _ hk => hk.1.1.1.2)))
     have n2_ := Aside0.mk (blk_grown (g := gb140) (o := .cells #[.int .i64 6, .int .i64 ji13, .int .i64 (-1)] 54 (0, 0)) au1 hg (Kd.R_away HO172.out (fun _ hk => hk.1.1.2)))
     have n3_ := Aside0.mk (blk_grown (g := gb169) (o := .cells #[.int .i64 7, .int .i64 (wrap64 (ji11 + 2592000)), .int .i64 (-1)] 54 (0, 0)) au9 hg (Kd.R_away HO172.out (fun _ hk => hk.1.2)))
     have n4_ := Aside0.mk (Kd.R_after (ok := (fun k_ => some k_ ≠ (.slice Ao20 t127.length co20 : Value).ownBlock ∧ k_ ≠ gb138 ∧ k_ ≠ gb140 ∧ k_ ≠ gb169)) (by (with_reducible repeat (first | apply Kd.R_alloc | apply Kd.R_drewN | apply Kd.R_drew)); exact Kd.R_mono HO178.out (fun _ hk => ⟨⟨hk.1.1.1.1.2, ⟨hk.1.1.2, ⟨hk.1.2, hk.2⟩⟩⟩, hk.1.1.1.2⟩)) hg hat)
     have n5_ := Aside0.mk (hb)
     have n6_ := Aside0.mk (ho)
     clear HO_9
     clear BK138
     clear BK140
     clear BK169
     clear HO178
     clear HB
     clear HO172
     have HO_9 := n0_
     have BK138 := n1_
     have BK140 := n2_
     have BK169 := n3_
     have HO178 := n4_
     have HB := n5_
     have HO175 := n6_
     clear n0_ n1_ n2_ n3_ n4_ n5_ n6_
     clear ho hb hg hat
     refine hK.out _ _ ⟨(blk_cell BK138.out 0).trans rfl, (blk_cell BK138.out 1).trans rfl, (blk_cell BK138.out 2).trans rfl, (blk_cell BK169.out 0).trans rfl, (blk_cell BK169.out 1).trans rfl, (blk_cell BK169.out 2).trans rfl⟩ (fun hHeld => ?_)
     clear hK K
     refine norm_ (a' := ?_) ?_ ?_
     rotate_left
     · show Act.put _ (some 165) _ = _
       simp only [Act.put, List.setIfInBounds_toArray, List.set_cons_zero, List.set_cons_succ, i64_w, i32_w]
       rfl
     exact norm_ au25 (hCont (v171, v174, v177) _ ⟨hHeld, (by (with_reducible repeat (first | apply Kd.R_alloc | apply Kd.R_drewN | apply Kd.R_drew)); exact Kd.R_mono HO175.out (fun _ hk => ⟨hk.2.1, ⟨hk.1, ⟨hk.2.2.1, ⟨hk.2.2.2.1, hk.2.2.2.2⟩⟩⟩⟩)), (by (with_reducible repeat (first | apply Kd.R_alloc | apply Kd.R_drewN | apply Kd.R_drew)); exact Kd.R_mono HO178.out (fun _ hk => ⟨hk.2, ⟨hk.1.1, ⟨hk.1.2.1, ⟨hk.1.2.2.1, hk.1.2.2.2⟩⟩⟩⟩)), (by (with_reducible repeat (first | apply Kd.R_alloc | apply Kd.R_drewN | apply Kd.R_drew)); exact Kd.R_mono HO_9.out (fun _ hk => ⟨hk.2, ⟨hk.1.1, ⟨hk.1.2.1, ⟨hk.1.2.2.1, hk.1.2.2.2⟩⟩⟩⟩)), au2, au1, au9, au4⟩)
   skip
   refine Kd.R_lit_step k54 _ 54 ?hg (N := 168) ?hd (xs := ([(⟨5, ji11, (-1)⟩ : S54), (⟨7, wrap64 (ji11 + 2592000), (-1)⟩ : S54)] : List (S54))) (inner := [.int .i64 5, .int .i64 ji11, .int .i64 (-1), .int .i64 7, .int .i64 (wrap64 (ji11 + 2592000)), .int .i64 (-1)]) (ok := fun _ => True) (okp := fun _ => True) ?hr ?hp (fun _ hk => hk) trivial (Below.refl _ _) (Nat.le_refl _) (by simp) ?_; (case hd => rfl); (case hg => rfl); (case hr => first | (go_simp; done) | (go_simp; rfl)); (case hp => exact (Reps.c3 (show Kd.M k54 _ _ _ (⟨5, ji11, (-1)⟩ : S54) [.int .i64 5, .int .i64 ji11, .int .i64 (-1)] from (k54_mkM _ _ _ (⟨5, ji11, (-1)⟩ : S54) )) (Reps.c3 (show Kd.M k54 _ _ _ (⟨7, wrap64 (ji11 + 2592000), (-1)⟩ : S54) [.int .i64 7, .int .i64 (wrap64 (ji11 + 2592000)), .int .i64 (-1)] from (k54_mkM _ _ _ (⟨7, wrap64 (ji11 + 2592000), (-1)⟩ : S54) )) (Reps.none _ _))))
   intro v177 w193 ho194 hb hg_ hnew_
   clear hg_ hnew_
   (first | rw [← Ny176.out] at ho194 | (simp only [Int.reduceToNat] at ho194; rw [← Ny176.out] at ho194))
   have n0_ := Aside0.mk (Kd.R_elder' au8 (Kd.R_base ho194) hb)
   have n1_ := Aside0.mk (Kd.R_lower (Kd.R_newB (Kd.R_newB (Kd.R_newB (Kd.R_new' ho194 (Kd.R_lt au8)) (g := gb138) (o := .cells #[.int .i64 5, .int .i64 ji11, .int .i64 (-1)] 54 (0, 0)) au2) (g := gb140) (o := .cells #[.int .i64 6, .int .i64 ji13, .int .i64 (-1)] 54 (0, 0)) au1) (g := gb169) (o := .cells #[.int .i64 7, .int .i64 (wrap64 (ji11 + 2592000)), .int .i64 (-1)] 54 (0, 0)) au9) (below_size au4))
   have n2_ := Aside0.mk (blk_below (g := gb138) (o := .cells #[.int .i64 5, .int .i64 ji11, .int .i64 (-1)] 54 (0, 0)) au2 hb)
   have n3_ := Aside0.mk (blk_below (g := gb140) (o := .cells #[.int .i64 6, .int .i64 ji13, .int .i64 (-1)] 54 (0, 0)) au1 hb)
   have n4_ := Aside0.mk (blk_below (g := gb169) (o := .cells #[.int .i64 7, .int .i64 (wrap64 (ji11 + 2592000)), .int .i64 (-1)] 54 (0, 0)) au9 hb)
   have n5_ := Aside0.mk (below_step au4 hb)
   clear HO_9
   clear BK138
   clear BK140
   clear BK169
   clear HB
   have HO_9 := n0_
   have HO178 := n1_
   have BK138 := n2_
   have BK140 := n3_
   have BK169 := n4_
   have HB := n5_
   clear n0_ n1_ n2_ n3_ n4_ n5_
   clear hb ho194
   refine hK.out _ _ ⟨(blk_cell BK138.out 0).trans rfl, (blk_cell BK138.out 1).trans rfl, (blk_cell BK138.out 2).trans rfl, (blk_cell BK169.out 0).trans rfl, (blk_cell BK169.out 1).trans rfl, (blk_cell BK169.out 2).trans rfl⟩ (fun hHeld => ?_)
   clear hK K
   refine norm_ (a' := ?_) ?_ ?_
   rotate_left
   · show Act.put _ (some 168) _ = _
     simp only [Act.put, List.setIfInBounds_toArray, List.set_cons_zero, List.set_cons_succ, i64_w, i32_w]
     rfl
   refine one_ (i := 0) (N := some 163) #[true, true, false, true, true, true, false, false] rfl rfl (one_of HT_.out au28) (by decide) (fun K hK => ?_)
   refine Kd.R_lit_step k54 _ 54 ?hg (N := 163) ?hd (xs := ([] : List (S54))) (inner := []) (ok := fun _ => True) (okp := fun _ => True) ?hr ?hp (fun _ hk => hk) trivial (Below.refl _ _) (Nat.le_refl _) (by simp) ?_; (case hd => rfl); (case hg => rfl); (case hr => first | (go_simp; done) | (go_simp; rfl)); (case hp => exact (Reps.none _ _))
   intro v171 w195 ho196 hb hg_ hnew_
   clear hg_ hnew_
   (first | rw [← Ny170.out] at ho196 | (simp only [Int.reduceToNat] at ho196; rw [← Ny170.out] at ho196))
   have n0_ := Aside0.mk (Kd.R_elder' au8 (Kd.R_base ho196) hb)
   have n1_ := Aside0.mk (Kd.R_elder' au14 (Kd.R_base ho196) hb)
   have n2_ := Aside0.mk (Kd.R_lower (Kd.R_newB (Kd.R_newB (Kd.R_newB (Kd.R_new' (Kd.R_new' ho196 (Kd.R_lt au8)) (Kd.R_lt au14)) (g := gb138) (o := .cells #[.int .i64 5, .int .i64 ji11, .int .i64 (-1)] 54 (0, 0)) au2) (g := gb140) (o := .cells #[.int .i64 6, .int .i64 ji13, .int .i64 (-1)] 54 (0, 0)) au1) (g := gb169) (o := .cells #[.int .i64 7, .int .i64 (wrap64 (ji11 + 2592000)), .int .i64 (-1)] 54 (0, 0)) au9) (below_size au4))
   have n3_ := Aside0.mk (blk_below (g := gb138) (o := .cells #[.int .i64 5, .int .i64 ji11, .int .i64 (-1)] 54 (0, 0)) au2 hb)
   have n4_ := Aside0.mk (blk_below (g := gb140) (o := .cells #[.int .i64 6, .int .i64 ji13, .int .i64 (-1)] 54 (0, 0)) au1 hb)
   have n5_ := Aside0.mk (blk_below (g := gb169) (o := .cells #[.int .i64 7, .int .i64 (wrap64 (ji11 + 2592000)), .int .i64 (-1)] 54 (0, 0)) au9 hb)
   have n6_ := Aside0.mk (below_step au4 hb)
   clear HO_9
   clear HO178
   clear BK138
   clear BK140
   clear BK169
   clear HB
   have HO_9 := n0_
   have HO178 := n1_
   have HO172 := n2_
   have BK138 := n3_
   have BK140 := n4_
   have BK169 := n5_
   have HB := n6_
   clear n0_ n1_ n2_ n3_ n4_ n5_ n6_
   clear hb ho196
   refine hK.out _ _ ⟨(blk_cell BK138.out 0).trans rfl, (blk_cell BK138.out 1).trans rfl, (blk_cell BK138.out 2).trans rfl, (blk_cell BK169.out 0).trans rfl, (blk_cell BK169.out 1).trans rfl, (blk_cell BK169.out 2).trans rfl⟩ (fun hHeld => ?_)
   clear hK K
   refine norm_ (a' := ?_) ?_ ?_
   rotate_left
   · show Act.put _ (some 163) _ = _
     simp only [Act.put, List.setIfInBounds_toArray, List.set_cons_zero, List.set_cons_succ, i64_w, i32_w]
     rfl
   refine one_ (i := 2) (N := some 165) #[true, true, true, true, true, true, false, false] rfl rfl (one_of HT_.out au28) (by decide) (fun K hK => ?_)
   refine Kd.R_append_rows_step k54 (w0 := w) w.heap.size (by rfl) (.tmp 163) (.tmp 164) 24 54 (.agg #[(.int .i64 0), (.int .i64 0), (.int .i64 0)]) 24 rfl Try.underlying24 info54 rfl (by decide) (by omega) v171 y170 t127 _ _ _ (fun k_ => some k_ ≠ (.slice Ao20 t127.length co20 : Value).ownBlock ∧ some k_ ≠ (v177 : Value).ownBlock ∧ k_ ≠ gb138 ∧ k_ ≠ gb140 ∧ k_ ≠ gb169) (fun _ => False) rfl rfl ?aO ?aR (fun _ _ h => h) (fun _ h => h.elim) ?aF ?aB ?aS ?aL ?_
   (case aR => repeat (first | exact (Kd.R_reads' HO_9.out).2.2 | (with_reducible refine Kd.C_alloc ?_ _) | (with_reducible refine Kd.C_drewN ?_ _) | (with_reducible refine Kd.C_drew ?_)))
   (case aB => exact au4)
   (case aF => exact (fun k_ hk => ⟨Kd.fresh' (Kd.R_lt au8) k_ hk, Kd.fresh' (Kd.R_lt au14) k_ hk, Kd.freshB (g := gb138) (o := .cells #[.int .i64 5, .int .i64 ji11, .int .i64 (-1)] 54 (0, 0)) au2 k_ hk, Kd.freshB (g := gb140) (o := .cells #[.int .i64 6, .int .i64 ji13, .int .i64 (-1)] 54 (0, 0)) au1 k_ hk, Kd.freshB (g := gb169) (o := .cells #[.int .i64 7, .int .i64 (wrap64 (ji11 + 2592000)), .int .i64 (-1)] 54 (0, 0)) au9 k_ hk⟩))
   (case aO => exact (by (with_reducible repeat (first | apply Kd.R_alloc | apply Kd.R_drewN | apply Kd.R_drew)); exact Kd.R_mono HO172.out (fun _ hk => ⟨hk.1.1.1.1.2, ⟨hk.1.1.1.2, ⟨hk.1.1.2, ⟨hk.1.2, hk.2⟩⟩⟩⟩)))
   (case aS => exact (below_size au4))
   (case aL => have := LMc178.out; omega)
   intro v174 w197 ho hb hg hat
   rw [← Ny173.out] at ho
   have n0_ := Aside0.mk (Kd.R_after (ok := (fun k_ => some k_ ≠ (v177 : Value).ownBlock ∧ k_ ≠ gb138 ∧ k_ ≠ gb140 ∧ k_ ≠ gb169)) (by (with_reducible repeat (first | apply Kd.R_alloc | apply Kd.R_drewN | apply Kd.R_drew)); exact Kd.R_mono HO_9.out (fun _ hk => ⟨⟨hk.1.2, ⟨hk.1.1.1, ⟨hk.1.1.2.1, hk.1.1.2.2⟩⟩⟩, hk.2⟩)) hg hat)
   have n1_ := Aside0.mk (blk_grown (g := gb138) (o := .cells #[.int .i64 5, .int .i64 ji11, .int .i64 (-1)] 54 (0, 0)) au2 hg (Kd.R_away HO172.out (fun _ hk => hk.1.1.2)))
   have n2_ := Aside0.mk (blk_grown (g := gb140) (o := .cells #[.int .i64 6, .int .i64 ji13, .int .i64 (-1)] 54 (0, 0)) au1 hg (Kd.R_away HO172.out (fun _ hk => hk.1.2)))
   have n3_ := Aside0.mk (blk_grown (g := gb169) (o := .cells #[.int .i64 7, .int .i64 (wrap64 (ji11 + 2592000)), .int .i64 (-1)] 54 (0, 0)) au9 hg (Kd.R_away HO172.out (fun _ hk => hk.2)))
   have n4_ := Aside0.mk (Kd.R_after (ok := (fun k_ => some k_ ≠ (.slice Ao20 t127.length co20 : Value).ownBlock ∧ k_ ≠ gb138 ∧ k_ ≠ gb140 ∧ k_ ≠ gb169)) (by (with_reducible repeat (first | apply Kd.R_alloc | apply Kd.R_drewN | apply Kd.R_drew)); exact Kd.R_mono HO178.out (fun _ hk => ⟨⟨hk.1.1.1.1.2, ⟨hk.1.1.1.2, ⟨hk.1.1.2, hk.1.2⟩⟩⟩, hk.2⟩)) hg hat)
   have n5_ := Aside0.mk (hb)
   have n6_ := Aside0.mk (ho)
   clear HO_9
   clear BK138
   clear BK140
   clear BK169
   clear HO178
   clear HB
   clear HO172
   have HO_9 := n0_
   have BK138 := n1_
   have BK140 := n2_
   have BK169 := n3_
   have HO178 := n4_
   have HB := n5_
   have HO175 := n6_
   clear n0_ n1_ n2_ n3_ n4_ n5_ n6_
   clear ho hb hg hat
   refine hK.out _ _ ⟨(blk_cell BK138.out 0).trans rfl, (blk_cell BK138.out 1).trans rfl, (blk_cell BK138.out 2).trans rfl, (blk_cell BK169.out 0).trans rfl, (blk_cell BK169.out 1).trans rfl, (blk_cell BK169.out 2).trans rfl⟩ (fun hHeld => ?_)
   clear hK K
   refine norm_ (a' := ?_) ?_ ?_
   rotate_left
   · show Act.put _ (some 165) _ = _
     simp only [Act.put, List.setIfInBounds_toArray, List.set_cons_zero, List.set_cons_succ, i64_w, i32_w]
     rfl
   exact norm_ au25 (hCont (v171, v174, v177) _ ⟨hHeld, (by (with_reducible repeat (first | apply Kd.R_alloc | apply Kd.R_drewN | apply Kd.R_drew)); exact Kd.R_mono HO175.out (fun _ hk => ⟨hk.2.1, ⟨hk.1, ⟨hk.2.2.1, ⟨hk.2.2.2.1, hk.2.2.2.2⟩⟩⟩⟩)), (by (with_reducible repeat (first | apply Kd.R_alloc | apply Kd.R_drewN | apply Kd.R_drew)); exact Kd.R_mono HO178.out (fun _ hk => ⟨hk.2, ⟨hk.1.1, ⟨hk.1.2.1, ⟨hk.1.2.2.1, hk.1.2.2.2⟩⟩⟩⟩)), (by (with_reducible repeat (first | apply Kd.R_alloc | apply Kd.R_drewN | apply Kd.R_drew)); exact Kd.R_mono HO_9.out (fun _ hk => ⟨hk.2, ⟨hk.1.1, ⟨hk.1.2.1, ⟨hk.1.2.2.1, hk.1.2.2.2⟩⟩⟩⟩)), au2, au1, au9, au4⟩)
 rintro ⟨v171, v174, v177⟩ w198 ⟨hS_, h0_, h1_, h2_, h3_, h4_, h5_, h6_⟩
 have n0_ : Aside0 (Kd.R k54 54 w198 w.heap.size (fun k_ => some k_ ≠ (v177 : Value).ownBlock ∧ some k_ ≠ (.slice Ao20 t127.length co20 : Value).ownBlock ∧ k_ ≠ gb138 ∧ k_ ≠ gb140 ∧ k_ ≠ gb169) v174 y173) := ⟨h0_⟩
 have n1_ : Aside0 (Kd.R k54 54 w198 w.heap.size (fun k_ => some k_ ≠ (v174 : Value).ownBlock ∧ some k_ ≠ (.slice Ao20 t127.length co20 : Value).ownBlock ∧ k_ ≠ gb138 ∧ k_ ≠ gb140 ∧ k_ ≠ gb169) v177 y176) := ⟨h1_⟩
 have n2_ : Aside0 (Kd.R k54 54 w198 w.heap.size (fun k_ => some k_ ≠ (v174 : Value).ownBlock ∧ some k_ ≠ (v177 : Value).ownBlock ∧ k_ ≠ gb138 ∧ k_ ≠ gb140 ∧ k_ ≠ gb169) (.slice Ao20 t127.length co20) t127) := ⟨h2_⟩
 have n3_ : Aside0 (w198.heap[gb138]? = some (.cells #[.int .i64 5, .int .i64 ji11, .int .i64 (-1)] 54 (0, 0))) := ⟨h3_⟩
 have n4_ : Aside0 (w198.heap[gb140]? = some (.cells #[.int .i64 6, .int .i64 ji13, .int .i64 (-1)] 54 (0, 0))) := ⟨h4_⟩
 have n5_ : Aside0 (w198.heap[gb169]? = some (.cells #[.int .i64 7, .int .i64 (wrap64 (ji11 + 2592000)), .int .i64 (-1)] 54 (0, 0))) := ⟨h5_⟩
 have n6_ : Aside0 (Below w.heap.size w w198) := ⟨h6_⟩
 clear HO_9
 clear BK138
 clear BK140
 clear BK169
 clear HB
 clear h0_ h1_ h2_ h3_ h4_ h5_ h6_
 have HO175 := n0_
 have HO178 := n1_
 have HO_9 := n2_
 have BK138 := n3_
 have BK140 := n4_
 have BK169 := n5_
 have HB := n6_
 clear n0_ n1_ n2_ n3_ n4_ n5_ n6_
 have hHeld : w198.cell? ⟨gb138, 0, none⟩ = some (.int .i64 5) ∧ w198.cell? ⟨gb138, 1, none⟩ = some (.int .i64 ji11) ∧ w198.cell? ⟨gb138, 2, none⟩ = some (.int .i64 (-1)) ∧ w198.cell? ⟨gb169, 0, none⟩ = some (.int .i64 7) ∧ w198.cell? ⟨gb169, 1, none⟩ = some (.int .i64 (wrap64 (ji11 + 2592000))) ∧ w198.cell? ⟨gb169, 2, none⟩ = some (.int .i64 (-1)) := hS_
 obtain ⟨Ao200, co200, eo200⟩ := Kd.R_slice HO178.out
 (first | subst eo200 | (injection eo200 with f1_ f2_ f3_; have f4_ := f1_.symm; have f5_ := f3_.symm; clear f1_ f2_ f3_; subst f4_; subst f5_))
 refine norm_ (a' := ?_) ?_ ?_
 rotate_left
 · simp only [putAll, Act.put, List.setIfInBounds_toArray, List.set_cons_zero, List.set_cons_succ]
   rfl
 refine one_ (i := 6) (N := some 169) #[true, true, true, true, true, true, true, false] rfl rfl (one_of HT_.out au28) (by decide) (fun K hK => ?_)
 refine Kd.R_append_rows_step k54 (w0 := w) w.heap.size (by rfl) (.tmp 165) (.tmp 168) 24 54 (.agg #[(.int .i64 0), (.int .i64 0), (.int .i64 0)]) 24 rfl Try.underlying24 info54 rfl (by decide) (by omega) v174 y173 y176 _ _ _ (fun k_ => some k_ ≠ (.slice Ao20 t127.length co20 : Value).ownBlock ∧ some k_ ≠ (.slice Ao200 y176.length co200 : Value).ownBlock ∧ k_ ≠ gb138 ∧ k_ ≠ gb140 ∧ k_ ≠ gb169) (fun _ => False) rfl rfl ?aO ?aR (fun _ _ h => h) (fun _ h => h.elim) ?aF ?aB ?aS ?aL ?_
 (case aR => repeat (first | exact (Kd.R_reads' HO178.out).2.2 | (with_reducible refine Kd.C_alloc ?_ _) | (with_reducible refine Kd.C_drewN ?_ _) | (with_reducible refine Kd.C_drew ?_)))
 (case aB => exact au4)
 (case aF => exact (fun k_ hk => ⟨Kd.fresh' (Kd.R_lt au8) k_ hk, Kd.fresh' (Kd.R_lt au14) k_ hk, Kd.freshB (g := gb138) (o := .cells #[.int .i64 5, .int .i64 ji11, .int .i64 (-1)] 54 (0, 0)) au2 k_ hk, Kd.freshB (g := gb140) (o := .cells #[.int .i64 6, .int .i64 ji13, .int .i64 (-1)] 54 (0, 0)) au1 k_ hk, Kd.freshB (g := gb169) (o := .cells #[.int .i64 7, .int .i64 (wrap64 (ji11 + 2592000)), .int .i64 (-1)] 54 (0, 0)) au9 k_ hk⟩))
 (case aO => exact (by (with_reducible repeat (first | apply Kd.R_alloc | apply Kd.R_drewN | apply Kd.R_drew)); exact Kd.R_mono HO175.out (fun _ hk => ⟨hk.2.1, ⟨hk.1, ⟨hk.2.2.1, ⟨hk.2.2.2.1, hk.2.2.2.2⟩⟩⟩⟩)))
 (case aS => exact (below_size au4))
 (case aL => have := LMc179.out; omega)
 intro v180 w199 ho hb hg hat
 rw [← Ny179.out] at ho
 have n0_ := Aside0.mk (Kd.R_after (ok := (fun k_ => some k_ ≠ (.slice Ao200 y176.length co200 : Value).ownBlock ∧ k_ ≠ gb138 ∧ k_ ≠ gb140 ∧ k_ ≠ gb169)) (by (with_reducible repeat (first | apply Kd.R_alloc | apply Kd.R_drewN | apply Kd.R_drew)); exact Kd.R_mono HO_9.out (fun _ hk => ⟨⟨hk.2.1, ⟨hk.2.2.1, ⟨hk.2.2.2.1, hk.2.2.2.2⟩⟩⟩, hk.1⟩)) hg hat)
 have n1_ := Aside0.mk (blk_grown (g := gb138) (o := .cells #[.int .i64 5, .int .i64 ji11, .int .i64 (-1)] 54 (0, 0)) au2 hg (Kd.R_away HO175.out (fun _ hk => hk.2.2.1)))
 have n2_ := Aside0.mk (blk_grown (g := gb140) (o := .cells #[.int .i64 6, .int .i64 ji13, .int .i64 (-1)] 54 (0, 0)) au1 hg (Kd.R_away HO175.out (fun _ hk => hk.2.2.2.1)))
 have n3_ := Aside0.mk (blk_grown (g := gb169) (o := .cells #[.int .i64 7, .int .i64 (wrap64 (ji11 + 2592000)), .int .i64 (-1)] 54 (0, 0)) au9 hg (Kd.R_away HO175.out (fun _ hk => hk.2.2.2.2)))
 have n4_ := Aside0.mk (Kd.R_after (ok := (fun k_ => some k_ ≠ (.slice Ao20 t127.length co20 : Value).ownBlock ∧ k_ ≠ gb138 ∧ k_ ≠ gb140 ∧ k_ ≠ gb169)) (by (with_reducible repeat (first | apply Kd.R_alloc | apply Kd.R_drewN | apply Kd.R_drew)); exact Kd.R_mono HO178.out (fun _ hk => ⟨⟨hk.2.1, ⟨hk.2.2.1, ⟨hk.2.2.2.1, hk.2.2.2.2⟩⟩⟩, hk.1⟩)) hg hat)
 have n5_ := Aside0.mk (hb)
 have n6_ := Aside0.mk (ho)
 clear HO_9
 clear BK138
 clear BK140
 clear BK169
 clear HO178
 clear HB
 clear HO175
 have HO_9 := n0_
 have BK138 := n1_
 have BK140 := n2_
 have BK169 := n3_
 have HO178 := n4_
 have HB := n5_
 have HO181 := n6_
 clear n0_ n1_ n2_ n3_ n4_ n5_ n6_
 clear ho hb hg hat
 refine hK.out _ _ ⟨(blk_cell BK138.out 0).trans rfl, (blk_cell BK138.out 1).trans rfl, (blk_cell BK138.out 2).trans rfl, (blk_cell BK169.out 0).trans rfl, (blk_cell BK169.out 1).trans rfl, (blk_cell BK169.out 2).trans rfl⟩ (fun hHeld => ?_)
 clear hK K
 refine norm_ (a' := ?_) ?_ ?_
 rotate_left
 · show Act.put _ (some 169) _ = _
   simp only [Act.put, List.setIfInBounds_toArray, List.set_cons_zero, List.set_cons_succ, i64_w, i32_w]
   rfl
 refine pure_ (i := 7) (N := some 26) (v := ?_) (a' := ?_) #[true, true, true, true, true, true, true, true] rfl rfl (any_of HT_.out au28) (fun _ _ _ h => h) (Or.inl ⟨by rfl, ?_⟩) ?_ ?_
 rotate_left
 · intro w'
   go_simp
   with_reducible rfl
 rotate_left
 · simp only [Act.put, List.setIfInBounds_toArray, List.set_cons_zero, List.set_cons_succ, i64_w, i32_w]
   rfl
 refine done_ (done_of HT_.out au28) ?_
 obtain ⟨Ao201, co201, eo201⟩ := Kd.R_slice HO181.out
 subst eo201
 have H := HZ.out
 clear HZ
 by_cases c183 : t187 = 0
 rotate_left
 · rw [if_neg c183] at H
   have c183b0 : (t187 == 0) = false := beq_eq_false_iff_ne.mpr c183
   have c183b1 : (t187 != 0) = true := bne_iff_ne.mpr c183
   obtain rfl := Option.some.inj H
   try go_wp2_with (first | ((with_reducible refine gate_callee (f := 17) rfl ?_); refine goesL_ (some 172) rfl rfl Try.func17 au28 rfl #[.slice Ao201 y179.length co201] rfl au12 ?_; (with_reducible refine (life_Run.calls _ _ y179 t182 t183 t184 t185 t186 t187 _ ?side1 ?side2 A180.out).mono ?_); (case side1 => repeat (first | exact (Kd.R_reads' HO181.out).2.2 | (with_reducible refine Kd.C_alloc ?_ _) | (with_reducible refine Kd.C_drewN ?_ _) | (with_reducible refine Kd.C_drew ?_))); (case side2 => exact (Kd.R_reads' HO181.out).2.1); rintro e w202 ⟨rfl, hb⟩; refine ⟨_, rfl, ?_⟩; have n0_ := Aside0.mk (Kd.R_below au8 hb); have n1_ := Aside0.mk (Kd.R_below au14 hb); have n2_ := Aside0.mk (Kd.R_below (by (with_reducible repeat (first | apply Kd.R_alloc | apply Kd.R_drewN | apply Kd.R_drew)); exact HO181.out) hb); have n3_ := Aside0.mk (blk_below (g := gb138) (o := .cells #[.int .i64 5, .int .i64 ji11, .int .i64 (-1)] 54 (0, 0)) au2 hb); have n4_ := Aside0.mk (blk_below (g := gb140) (o := .cells #[.int .i64 6, .int .i64 ji13, .int .i64 (-1)] 54 (0, 0)) au1 hb); have n5_ := Aside0.mk (blk_below (g := gb169) (o := .cells #[.int .i64 7, .int .i64 (wrap64 (ji11 + 2592000)), .int .i64 (-1)] 54 (0, 0)) au9 hb); have n6_ := Aside0.mk (below_step au4 hb); clear HO_9; clear HO178; clear HO181; clear BK138; clear BK140; clear BK169; clear HB; have HO_9 := n0_; have HO178 := n1_; have HO181 := n2_; have BK138 := n3_; have BK140 := n4_; have BK169 := n5_; have HB := n6_; clear n0_ n1_ n2_ n3_ n4_ n5_ n6_; (try clear hb); (try clear hb2); (try clear hk); (try clear hi); (try clear BK138)) | ((with_reducible refine gate_dst (N := 27) rfl ?_); (try (refine gate_guard (by rfl) ?_; dsimp only)); refine box_event ?hg (N := 27) ?hd (cs := #[.int .i64 0, .int .i64 0, .int .i64 0, .int .i64 0]) (t := 26) ?hr ?_; (case hd => rfl); (case hg => rfl); (case hr => first | (go_simp; done) | (go_simp; rfl)); intro gb188 hg w203 hbox hb; have n0_ := Aside0.mk (Kd.R_below au8 hb); have n1_ := Aside0.mk (Kd.R_below au14 hb); have n2_ := Aside0.mk (Kd.R_below (by (with_reducible repeat (first | apply Kd.R_alloc | apply Kd.R_drewN | apply Kd.R_drew)); exact HO181.out) hb); have n3_ := Aside0.mk (blk_below (g := gb140) (o := .cells #[.int .i64 6, .int .i64 ji13, .int .i64 (-1)] 54 (0, 0)) au1 hb); have n4_ := Aside0.mk (blk_below (g := gb169) (o := .cells #[.int .i64 7, .int .i64 (wrap64 (ji11 + 2592000)), .int .i64 (-1)] 54 (0, 0)) au9 hb); have n5_ := Aside0.mk (below_step au15 hb); have n6_ := Aside0.mk (hbox); have n7_ := Aside0.mk ((by rw [hg]; exact (below_size au15) : w.heap.size ≤ gb188)); have n8_ := Aside0.mk ((by rw [hg]; exact (below_size au15) : w.heap.size ≤ gb188)); have n9_ := Aside0.mk ((by rw [hg]; exact Nat.ne_of_lt (blk_lt (g := gb140) (o := .cells #[.int .i64 6, .int .i64 ji13, .int .i64 (-1)] 54 (0, 0)) au1) : gb140 ≠ gb188)); have n10_ := Aside0.mk ((by rw [hg]; exact Nat.ne_of_gt (blk_lt (g := gb140) (o := .cells #[.int .i64 6, .int .i64 ji13, .int .i64 (-1)] 54 (0, 0)) au1) : gb188 ≠ gb140)); have n11_ := Aside0.mk ((by rw [hg]; exact Nat.ne_of_lt (blk_lt (g := gb169) (o := .cells #[.int .i64 7, .int .i64 (wrap64 (ji11 + 2592000)), .int .i64 (-1)] 54 (0, 0)) au9) : gb169 ≠ gb188)); have n12_ := Aside0.mk ((by rw [hg]; exact Nat.ne_of_gt (blk_lt (g := gb169) (o := .cells #[.int .i64 7, .int .i64 (wrap64 (ji11 + 2592000)), .int .i64 (-1)] 54 (0, 0)) au9) : gb188 ≠ gb169)); clear HO_9; clear HO178; clear HO181; clear BK140; clear BK169; clear HB; have HO_9 := n0_; have HO178 := n1_; have HO181 := n2_; have BK140 := n3_; have BK169 := n4_; have HB := n5_; have BK188 := n6_; have GW188 := n7_; have GE188 := n8_; have NB140_188 := n9_; have NB188_140 := n10_; have NB169_188 := n11_; have NB188_169 := n12_; clear n0_ n1_ n2_ n3_ n4_ n5_ n6_ n7_ n8_ n9_ n10_ n11_ n12_; clear hb hbox hg; have hnb204 := NB188_140.out; have hnc204 := NB140_188.out; have hnb205 := NB188_169.out; have hnc205 := NB169_188.out; have hcz206_0 : w203.cell? ⟨gb188, 0, none⟩ = some (.int .i64 0) := (blk_cell BK188.out 0).trans rfl; have hcz206_1 : w203.cell? ⟨gb188, 1, none⟩ = some (.int .i64 0) := (blk_cell BK188.out 1).trans rfl; have hcz206_2 : w203.cell? ⟨gb188, 2, none⟩ = some (.int .i64 0) := (blk_cell BK188.out 2).trans rfl; have hcz206_3 : w203.cell? ⟨gb188, 3, none⟩ = some (.int .i64 0) := (blk_cell BK188.out 3).trans rfl; have hfz206_0 := blk_frozen BK188.out 0; have hfz206_1 := blk_frozen BK188.out 1; have hfz206_2 := blk_frozen BK188.out 2; have hfz206_3 := blk_frozen BK188.out 3; have hcz207_0 : w203.cell? ⟨gb169, 0, none⟩ = some (.int .i64 7) := (blk_cell BK169.out 0).trans rfl; have hcz207_1 : w203.cell? ⟨gb169, 1, none⟩ = some (.int .i64 (wrap64 (ji11 + 2592000))) := (blk_cell BK169.out 1).trans rfl; have hcz207_2 : w203.cell? ⟨gb169, 2, none⟩ = some (.int .i64 (-1)) := (blk_cell BK169.out 2).trans rfl; have hfz207_0 := blk_frozen BK169.out 0; have hfz207_1 := blk_frozen BK169.out 1; have hfz207_2 := blk_frozen BK169.out 2; have hcz208_0 : w203.cell? ⟨gb140, 0, none⟩ = some (.int .i64 6) := (blk_cell BK140.out 0).trans rfl; have hcz208_1 : w203.cell? ⟨gb140, 1, none⟩ = some (.int .i64 ji13) := (blk_cell BK140.out 1).trans rfl; have hcz208_2 : w203.cell? ⟨gb140, 2, none⟩ = some (.int .i64 (-1)) := (blk_cell BK140.out 2).trans rfl; have hfz208_0 := blk_frozen BK140.out 0; have hfz208_1 := blk_frozen BK140.out 1; have hfz208_2 := blk_frozen BK140.out 2) | ((with_reducible refine gate_builtin (b := .append) (xs := #[.tmp 180, .tmp 182]) rfl ?_); (try (refine gate_guard (by rfl) ?_; dsimp only)); at_builtin; refine Kd.R_append k54 (w0 := w) w.heap.size rfl (.tmp 180) (.tmp 182) 24 54 (.agg #[(.int .i64 0), (.int .i64 0), (.int .i64 0)]) 24 rfl Try.underlying24 info54 rfl (by decide) (by omega) (.slice Ao201 y179.length co201) y179 (⟨6, wrap64 (ji11 + 2592000), (-1)⟩ : S54) [.int .i64 6, .int .i64 (wrap64 (ji11 + 2592000)), .int .i64 (-1)] (fun k_ => some k_ ≠ (.slice Ao20 t127.length co20 : Value).ownBlock ∧ some k_ ≠ (.slice Ao200 y176.length co200 : Value).ownBlock ∧ k_ ≠ gb140 ∧ k_ ≠ gb169) (fun _ => False) rfl (by first | (go_simp; done) | (go_simp; rfl)) ?aP (fun _ hk => hk.elim) ?aF ?aO ?aB ?aS ?aL ?_; (case aP => exact k54_mkM _ _ _ (⟨6, wrap64 (ji11 + 2592000), (-1)⟩ : S54)); (case aB => exact au22); (case aF => exact (fun k_ hk => ⟨Kd.fresh' (Kd.R_lt au21) k_ hk, Kd.fresh' (Kd.R_lt au20) k_ hk, Kd.freshB (g := gb140) (o := .cells #[.int .i64 6, .int .i64 (wrap64 (ji11 + 2592000)), .int .i64 (-1)] 54 (0, 0)) au6 k_ hk, Kd.freshB (g := gb169) (o := .cells #[.int .i64 7, .int .i64 (wrap64 (ji11 + 2592000)), .int .i64 (-1)] 54 (0, 0)) au7 k_ hk⟩)); (case aO => exact au18); (case aS => exact (below_size au22)); (case aL => have := LMc181.out; omega); intro v190 w209 ho hb hg hat; rw [← Ny189.out] at ho; have n0_ := Aside0.mk (Kd.R_after (ok := (fun k_ => some k_ ≠ (.slice Ao200 y176.length co200 : Value).ownBlock ∧ k_ ≠ gb138 ∧ k_ ≠ gb140 ∧ k_ ≠ gb169)) au17 hg hat); have n1_ := Aside0.mk (blk_grown (g := gb140) (o := .cells #[.int .i64 6, .int .i64 (wrap64 (ji11 + 2592000)), .int .i64 (-1)] 54 (0, 0)) au6 hg (Kd.R_away HO181.out (fun _ hk => hk.2.2.2.1))); have n2_ := Aside0.mk (blk_grown (g := gb169) (o := .cells #[.int .i64 7, .int .i64 (wrap64 (ji11 + 2592000)), .int .i64 (-1)] 54 (0, 0)) au7 hg (Kd.R_away HO181.out (fun _ hk => hk.2.2.2.2))); have n3_ := Aside0.mk (Kd.R_after (ok := (fun k_ => some k_ ≠ (.slice Ao20 t127.length co20 : Value).ownBlock ∧ k_ ≠ gb138 ∧ k_ ≠ gb140 ∧ k_ ≠ gb169)) au16 hg hat); have n4_ := Aside0.mk (blk_grown (g := gb188) (o := .cells #[.int .i64 t182, .int .i64 t183, .int .i64 t184, .int .i64 t185] 26 (0, 0)) au13 hg (Kd.R_ne HO181.out BK188.out (by decide))); have n5_ := Aside0.mk (hb); have n6_ := Aside0.mk (ho); clear HO_9; clear BK140; clear BK169; clear HO178; clear BK188; clear HB; clear HO181; have HO_9 := n0_; have BK140 := n1_; have BK169 := n2_; have HO178 := n3_; have BK188 := n4_; have HB := n5_; have HO191 := n6_; clear n0_ n1_ n2_ n3_ n4_ n5_ n6_; clear ho hb hg hat; (try clear BK140); (try clear BK169); (try clear BK188); obtain ⟨Ao210, co210, eo210⟩ := Kd.R_slice HO191.out; subst eo210) | ((with_reducible refine gate_callee (f := 17) rfl ?_); refine goesL_ (some 184) rfl rfl Try.func17 au28 rfl #[.slice Ao210 y189.length co210] rfl au12 ?_; (with_reducible refine (life_Run.calls _ _ y189 t192 t193 t194 t195 t196 t197 _ ?side1 ?side2 A182.out).mono ?_); (case side1 => repeat (first | exact (Kd.R_reads' HO191.out).2.2 | (with_reducible refine Kd.C_alloc ?_ _) | (with_reducible refine Kd.C_drewN ?_ _) | (with_reducible refine Kd.C_drew ?_))); (case side2 => exact (Kd.R_reads' HO191.out).2.1); rintro e w211 ⟨rfl, hb⟩; refine ⟨_, rfl, ?_⟩; have n0_ := Aside0.mk (Kd.R_below au8 hb); have n1_ := Aside0.mk (Kd.R_below au14 hb); have n2_ := Aside0.mk (Kd.R_below (by (with_reducible repeat (first | apply Kd.R_alloc | apply Kd.R_drewN | apply Kd.R_drew)); exact HO191.out) hb); have n3_ := Aside0.mk (below_step au10 hb); clear HO_9; clear HO178; clear HO191; clear HB; have HO_9 := n0_; have HO178 := n1_; have HO191 := n2_; have HB := n3_; clear n0_ n1_ n2_ n3_; (try clear hb); (try clear hb2); (try clear hk); (try clear hi)) | ((with_reducible refine gate_dst (N := 30) rfl ?_); (try (refine gate_guard (by rfl) ?_; dsimp only)); refine box_event ?hg (N := 30) ?hd (cs := #[.int .i64 0, .int .i64 0, .int .i64 0, .int .i64 0]) (t := 26) ?hr ?_; (case hd => rfl); (case hg => rfl); (case hr => first | (go_simp; done) | (go_simp; rfl)); intro gb198 hg w212 hbox hb; have n0_ := Aside0.mk (Kd.R_below au8 hb); have n1_ := Aside0.mk (Kd.R_below au14 hb); have n2_ := Aside0.mk (Kd.R_below (by (with_reducible repeat (first | apply Kd.R_alloc | apply Kd.R_drewN | apply Kd.R_drew)); exact HO191.out) hb); have n3_ := Aside0.mk (below_step au10 hb); have n4_ := Aside0.mk (hbox); have n5_ := Aside0.mk ((by rw [hg]; exact (below_size au10) : w.heap.size ≤ gb198)); have n6_ := Aside0.mk ((by rw [hg]; exact (below_size au10) : w.heap.size ≤ gb198)); clear HO_9; clear HO178; clear HO191; clear HB; have HO_9 := n0_; have HO178 := n1_; have HO191 := n2_; have HB := n3_; have BK198 := n4_; have GW198 := n5_; have GE198 := n6_; clear n0_ n1_ n2_ n3_ n4_ n5_ n6_; clear hb hbox hg; have hcz213_0 : w212.cell? ⟨gb198, 0, none⟩ = some (.int .i64 0) := (blk_cell BK198.out 0).trans rfl; have hcz213_1 : w212.cell? ⟨gb198, 1, none⟩ = some (.int .i64 0) := (blk_cell BK198.out 1).trans rfl; have hcz213_2 : w212.cell? ⟨gb198, 2, none⟩ = some (.int .i64 0) := (blk_cell BK198.out 2).trans rfl; have hcz213_3 : w212.cell? ⟨gb198, 3, none⟩ = some (.int .i64 0) := (blk_cell BK198.out 3).trans rfl; have hfz213_0 := blk_frozen BK198.out 0; have hfz213_1 := blk_frozen BK198.out 1; have hfz213_2 := blk_frozen BK198.out 2; have hfz213_3 := blk_frozen BK198.out 3))
   go_ret
   exact ⟨by first | rfl | (simp [errW_none, errW_some] <;> rfl) | (simp only [← hji11, ← hji13]; first | rfl | (simp [errW_none, errW_some] <;> rfl)) | (simp [*, errW_none, errW_some] <;> rfl), by repeat (first | (with_reducible first | exact HB.out | apply below_alloc | apply pw_below_drewN | apply below_drew1 | refine below_set ?_ GE198.out) | exact HB.out)⟩
 rw [if_pos c183] at H
 have c183b0 : (t187 == 0) = true := beq_iff_eq.mpr c183
 have c183b1 : (t187 != 0) = false := bne_eq_false_iff_eq.mpr c183
 clear c183
 by_cases c184 : t197 = 140
 rotate_left
 · rw [if_neg c184] at H
   have c184b0 : (t197 == 140) = false := beq_eq_false_iff_ne.mpr c184
   have c184b1 : (t197 != 140) = true := bne_iff_ne.mpr c184
   obtain rfl := Option.some.inj H
   try go_wp2_with (first | ((with_reducible refine gate_callee (f := 17) rfl ?_); refine goesL_ (some 172) rfl rfl Try.func17 au28 rfl #[.slice Ao201 y179.length co201] rfl au12 ?_; (with_reducible refine (life_Run.calls _ _ y179 t182 t183 t184 t185 t186 t187 _ ?side1 ?side2 A180.out).mono ?_); (case side1 => repeat (first | exact (Kd.R_reads' HO181.out).2.2 | (with_reducible refine Kd.C_alloc ?_ _) | (with_reducible refine Kd.C_drewN ?_ _) | (with_reducible refine Kd.C_drew ?_))); (case side2 => exact (Kd.R_reads' HO181.out).2.1); rintro e w202 ⟨rfl, hb⟩; refine ⟨_, rfl, ?_⟩; have n0_ := Aside0.mk (Kd.R_below au8 hb); have n1_ := Aside0.mk (Kd.R_below au14 hb); have n2_ := Aside0.mk (Kd.R_below (by (with_reducible repeat (first | apply Kd.R_alloc | apply Kd.R_drewN | apply Kd.R_drew)); exact HO181.out) hb); have n3_ := Aside0.mk (blk_below (g := gb138) (o := .cells #[.int .i64 5, .int .i64 ji11, .int .i64 (-1)] 54 (0, 0)) au2 hb); have n4_ := Aside0.mk (blk_below (g := gb140) (o := .cells #[.int .i64 6, .int .i64 ji13, .int .i64 (-1)] 54 (0, 0)) au1 hb); have n5_ := Aside0.mk (blk_below (g := gb169) (o := .cells #[.int .i64 7, .int .i64 (wrap64 (ji11 + 2592000)), .int .i64 (-1)] 54 (0, 0)) au9 hb); have n6_ := Aside0.mk (below_step au4 hb); clear HO_9; clear HO178; clear HO181; clear BK138; clear BK140; clear BK169; clear HB; have HO_9 := n0_; have HO178 := n1_; have HO181 := n2_; have BK138 := n3_; have BK140 := n4_; have BK169 := n5_; have HB := n6_; clear n0_ n1_ n2_ n3_ n4_ n5_ n6_; (try clear hb); (try clear hb2); (try clear hk); (try clear hi); (try clear BK138)) | ((with_reducible refine gate_dst (N := 27) rfl ?_); (try (refine gate_guard (by rfl) ?_; dsimp only)); refine box_event ?hg (N := 27) ?hd (cs := #[.int .i64 0, .int .i64 0, .int .i64 0, .int .i64 0]) (t := 26) ?hr ?_; (case hd => rfl); (case hg => rfl); (case hr => first | (go_simp; done) | (go_simp; rfl)); intro gb188 hg w203 hbox hb; have n0_ := Aside0.mk (Kd.R_below au8 hb); have n1_ := Aside0.mk (Kd.R_below au14 hb); have n2_ := Aside0.mk (Kd.R_below (by (with_reducible repeat (first | apply Kd.R_alloc | apply Kd.R_drewN | apply Kd.R_drew)); exact HO181.out) hb); have n3_ := Aside0.mk (blk_below (g := gb140) (o := .cells #[.int .i64 6, .int .i64 ji13, .int .i64 (-1)] 54 (0, 0)) au1 hb); have n4_ := Aside0.mk (blk_below (g := gb169) (o := .cells #[.int .i64 7, .int .i64 (wrap64 (ji11 + 2592000)), .int .i64 (-1)] 54 (0, 0)) au9 hb); have n5_ := Aside0.mk (below_step au15 hb); have n6_ := Aside0.mk (hbox); have n7_ := Aside0.mk ((by rw [hg]; exact (below_size au15) : w.heap.size ≤ gb188)); have n8_ := Aside0.mk ((by rw [hg]; exact (below_size au15) : w.heap.size ≤ gb188)); have n9_ := Aside0.mk ((by rw [hg]; exact Nat.ne_of_lt (blk_lt (g := gb140) (o := .cells #[.int .i64 6, .int .i64 ji13, .int .i64 (-1)] 54 (0, 0)) au1) : gb140 ≠ gb188)); have n10_ := Aside0.mk ((by rw [hg]; exact Nat.ne_of_gt (blk_lt (g := gb140) (o := .cells #[.int .i64 6, .int .i64 ji13, .int .i64 (-1)] 54 (0, 0)) au1) : gb188 ≠ gb140)); have n11_ := Aside0.mk ((by rw [hg]; exact Nat.ne_of_lt (blk_lt (g := gb169) (o := .cells #[.int .i64 7, .int .i64 (wrap64 (ji11 + 2592000)), .int .i64 (-1)] 54 (0, 0)) au9) : gb169 ≠ gb188)); have n12_ := Aside0.mk ((by rw [hg]; exact Nat.ne_of_gt (blk_lt (g := gb169) (o := .cells #[.int .i64 7, .int .i64 (wrap64 (ji11 + 2592000)), .int .i64 (-1)] 54 (0, 0)) au9) : gb188 ≠ gb169)); clear HO_9; clear HO178; clear HO181; clear BK140; clear BK169; clear HB; have HO_9 := n0_; have HO178 := n1_; have HO181 := n2_; have BK140 := n3_; have BK169 := n4_; have HB := n5_; have BK188 := n6_; have GW188 := n7_; have GE188 := n8_; have NB140_188 := n9_; have NB188_140 := n10_; have NB169_188 := n11_; have NB188_169 := n12_; clear n0_ n1_ n2_ n3_ n4_ n5_ n6_ n7_ n8_ n9_ n10_ n11_ n12_; clear hb hbox hg; have hnb204 := NB188_140.out; have hnc204 := NB140_188.out; have hnb205 := NB188_169.out; have hnc205 := NB169_188.out; have hcz206_0 : w203.cell? ⟨gb188, 0, none⟩ = some (.int .i64 0) := (blk_cell BK188.out 0).trans rfl; have hcz206_1 : w203.cell? ⟨gb188, 1, none⟩ = some (.int .i64 0) := (blk_cell BK188.out 1).trans rfl; have hcz206_2 : w203.cell? ⟨gb188, 2, none⟩ = some (.int .i64 0) := (blk_cell BK188.out 2).trans rfl; have hcz206_3 : w203.cell? ⟨gb188, 3, none⟩ = some (.int .i64 0) := (blk_cell BK188.out 3).trans rfl; have hfz206_0 := blk_frozen BK188.out 0; have hfz206_1 := blk_frozen BK188.out 1; have hfz206_2 := blk_frozen BK188.out 2; have hfz206_3 := blk_frozen BK188.out 3; have hcz207_0 : w203.cell? ⟨gb169, 0, none⟩ = some (.int .i64 7) := (blk_cell BK169.out 0).trans rfl; have hcz207_1 : w203.cell? ⟨gb169, 1, none⟩ = some (.int .i64 (wrap64 (ji11 + 2592000))) := (blk_cell BK169.out 1).trans rfl; have hcz207_2 : w203.cell? ⟨gb169, 2, none⟩ = some (.int .i64 (-1)) := (blk_cell BK169.out 2).trans rfl; have hfz207_0 := blk_frozen BK169.out 0; have hfz207_1 := blk_frozen BK169.out 1; have hfz207_2 := blk_frozen BK169.out 2; have hcz208_0 : w203.cell? ⟨gb140, 0, none⟩ = some (.int .i64 6) := (blk_cell BK140.out 0).trans rfl; have hcz208_1 : w203.cell? ⟨gb140, 1, none⟩ = some (.int .i64 ji13) := (blk_cell BK140.out 1).trans rfl; have hcz208_2 : w203.cell? ⟨gb140, 2, none⟩ = some (.int .i64 (-1)) := (blk_cell BK140.out 2).trans rfl; have hfz208_0 := blk_frozen BK140.out 0; have hfz208_1 := blk_frozen BK140.out 1; have hfz208_2 := blk_frozen BK140.out 2) | ((with_reducible refine gate_builtin (b := .append) (xs := #[.tmp 180, .tmp 182]) rfl ?_); (try (refine gate_guard (by rfl) ?_; dsimp only)); at_builtin; refine Kd.R_append k54 (w0 := w) w.heap.size rfl (.tmp 180) (.tmp 182) 24 54 (.agg #[(.int .i64 0), (.int .i64 0), (.int .i64 0)]) 24 rfl Try.underlying24 info54 rfl (by decide) (by omega) (.slice Ao201 y179.length co201) y179 (⟨6, wrap64 (ji11 + 2592000), (-1)⟩ : S54) [.int .i64 6, .int .i64 (wrap64 (ji11 + 2592000)), .int .i64 (-1)] (fun k_ => some k_ ≠ (.slice Ao20 t127.length co20 : Value).ownBlock ∧ some k_ ≠ (.slice Ao200 y176.length co200 : Value).ownBlock ∧ k_ ≠ gb140 ∧ k_ ≠ gb169) (fun _ => False) rfl (by first | (go_simp; done) | (go_simp; rfl)) ?aP (fun _ hk => hk.elim) ?aF ?aO ?aB ?aS ?aL ?_; (case aP => exact k54_mkM _ _ _ (⟨6, wrap64 (ji11 + 2592000), (-1)⟩ : S54)); (case aB => exact au22); (case aF => exact (fun k_ hk => ⟨Kd.fresh' (Kd.R_lt au21) k_ hk, Kd.fresh' (Kd.R_lt au20) k_ hk, Kd.freshB (g := gb140) (o := .cells #[.int .i64 6, .int .i64 (wrap64 (ji11 + 2592000)), .int .i64 (-1)] 54 (0, 0)) au6 k_ hk, Kd.freshB (g := gb169) (o := .cells #[.int .i64 7, .int .i64 (wrap64 (ji11 + 2592000)), .int .i64 (-1)] 54 (0, 0)) au7 k_ hk⟩)); (case aO => exact au18); (case aS => exact (below_size au22)); (case aL => have := LMc181.out; omega); intro v190 w209 ho hb hg hat; rw [← Ny189.out] at ho; have n0_ := Aside0.mk (Kd.R_after (ok := (fun k_ => some k_ ≠ (.slice Ao200 y176.length co200 : Value).ownBlock ∧ k_ ≠ gb138 ∧ k_ ≠ gb140 ∧ k_ ≠ gb169)) au17 hg hat); have n1_ := Aside0.mk (blk_grown (g := gb140) (o := .cells #[.int .i64 6, .int .i64 (wrap64 (ji11 + 2592000)), .int .i64 (-1)] 54 (0, 0)) au6 hg (Kd.R_away HO181.out (fun _ hk => hk.2.2.2.1))); have n2_ := Aside0.mk (blk_grown (g := gb169) (o := .cells #[.int .i64 7, .int .i64 (wrap64 (ji11 + 2592000)), .int .i64 (-1)] 54 (0, 0)) au7 hg (Kd.R_away HO181.out (fun _ hk => hk.2.2.2.2))); have n3_ := Aside0.mk (Kd.R_after (ok := (fun k_ => some k_ ≠ (.slice Ao20 t127.length co20 : Value).ownBlock ∧ k_ ≠ gb138 ∧ k_ ≠ gb140 ∧ k_ ≠ gb169)) au16 hg hat); have n4_ := Aside0.mk (blk_grown (g := gb188) (o := .cells #[.int .i64 t182, .int .i64 t183, .int .i64 t184, .int .i64 t185] 26 (0, 0)) au13 hg (Kd.R_ne HO181.out BK188.out (by decide))); have n5_ := Aside0.mk (hb); have n6_ := Aside0.mk (ho); clear HO_9; clear BK140; clear BK169; clear HO178; clear BK188; clear HB; clear HO181; have HO_9 := n0_; have BK140 := n1_; have BK169 := n2_; have HO178 := n3_; have BK188 := n4_; have HB := n5_; have HO191 := n6_; clear n0_ n1_ n2_ n3_ n4_ n5_ n6_; clear ho hb hg hat; (try clear BK140); (try clear BK169); (try clear BK188); obtain ⟨Ao210, co210, eo210⟩ := Kd.R_slice HO191.out; subst eo210) | ((with_reducible refine gate_callee (f := 17) rfl ?_); refine goesL_ (some 184) rfl rfl Try.func17 au28 rfl #[.slice Ao210 y189.length co210] rfl au12 ?_; (with_reducible refine (life_Run.calls _ _ y189 t192 t193 t194 t195 t196 t197 _ ?side1 ?side2 A182.out).mono ?_); (case side1 => repeat (first | exact (Kd.R_reads' HO191.out).2.2 | (with_reducible refine Kd.C_alloc ?_ _) | (with_reducible refine Kd.C_drewN ?_ _) | (with_reducible refine Kd.C_drew ?_))); (case side2 => exact (Kd.R_reads' HO191.out).2.1); rintro e w211 ⟨rfl, hb⟩; refine ⟨_, rfl, ?_⟩; have n0_ := Aside0.mk (Kd.R_below au8 hb); have n1_ := Aside0.mk (Kd.R_below au14 hb); have n2_ := Aside0.mk (Kd.R_below (by (with_reducible repeat (first | apply Kd.R_alloc | apply Kd.R_drewN | apply Kd.R_drew)); exact HO191.out) hb); have n3_ := Aside0.mk (below_step au10 hb); clear HO_9; clear HO178; clear HO191; clear HB; have HO_9 := n0_; have HO178 := n1_; have HO191 := n2_; have HB := n3_; clear n0_ n1_ n2_ n3_; (try clear hb); (try clear hb2); (try clear hk); (try clear hi)) | ((with_reducible refine gate_dst (N := 30) rfl ?_); (try (refine gate_guard (by rfl) ?_; dsimp only)); refine box_event ?hg (N := 30) ?hd (cs := #[.int .i64 0, .int .i64 0, .int .i64 0, .int .i64 0]) (t := 26) ?hr ?_; (case hd => rfl); (case hg => rfl); (case hr => first | (go_simp; done) | (go_simp; rfl)); intro gb198 hg w212 hbox hb; have n0_ := Aside0.mk (Kd.R_below au8 hb); have n1_ := Aside0.mk (Kd.R_below au14 hb); have n2_ := Aside0.mk (Kd.R_below (by (with_reducible repeat (first | apply Kd.R_alloc | apply Kd.R_drewN | apply Kd.R_drew)); exact HO191.out) hb); have n3_ := Aside0.mk (below_step au10 hb); have n4_ := Aside0.mk (hbox); have n5_ := Aside0.mk ((by rw [hg]; exact (below_size au10) : w.heap.size ≤ gb198)); have n6_ := Aside0.mk ((by rw [hg]; exact (below_size au10) : w.heap.size ≤ gb198)); clear HO_9; clear HO178; clear HO191; clear HB; have HO_9 := n0_; have HO178 := n1_; have HO191 := n2_; have HB := n3_; have BK198 := n4_; have GW198 := n5_; have GE198 := n6_; clear n0_ n1_ n2_ n3_ n4_ n5_ n6_; clear hb hbox hg; have hcz213_0 : w212.cell? ⟨gb198, 0, none⟩ = some (.int .i64 0) := (blk_cell BK198.out 0).trans rfl; have hcz213_1 : w212.cell? ⟨gb198, 1, none⟩ = some (.int .i64 0) := (blk_cell BK198.out 1).trans rfl; have hcz213_2 : w212.cell? ⟨gb198, 2, none⟩ = some (.int .i64 0) := (blk_cell BK198.out 2).trans rfl; have hcz213_3 : w212.cell? ⟨gb198, 3, none⟩ = some (.int .i64 0) := (blk_cell BK198.out 3).trans rfl; have hfz213_0 := blk_frozen BK198.out 0; have hfz213_1 := blk_frozen BK198.out 1; have hfz213_2 := blk_frozen BK198.out 2; have hfz213_3 := blk_frozen BK198.out 3))
   go_ret
   exact ⟨by first | rfl | (simp [errW_none, errW_some] <;> rfl) | (simp only [← hji11, ← hji13]; first | rfl | (simp [errW_none, errW_some] <;> rfl)) | (simp [*, errW_none, errW_some] <;> rfl), by repeat (first | (with_reducible first | exact HB.out | apply below_alloc | apply pw_below_drewN | apply below_drew1 | refine below_set ?_ GE198.out) | exact HB.out)⟩
 rw [if_pos c184] at H
 have c184b0 : (t197 == 140) = true := beq_iff_eq.mpr c184
 have c184b1 : (t197 != 140) = false := bne_eq_false_iff_eq.mpr c184
 clear c184
 obtain rfl := Option.some.inj H
 try go_wp2_with (first | ((with_reducible refine gate_callee (f := 17) rfl ?_); refine goesL_ (some 172) rfl rfl Try.func17 au28 rfl #[.slice Ao201 y179.length co201] rfl au12 ?_; (with_reducible refine (life_Run.calls _ _ y179 t182 t183 t184 t185 t186 t187 _ ?side1 ?side2 A180.out).mono ?_); (case side1 => repeat (first | exact (Kd.R_reads' HO181.out).2.2 | (with_reducible refine Kd.C_alloc ?_ _) | (with_reducible refine Kd.C_drewN ?_ _) | (with_reducible refine Kd.C_drew ?_))); (case side2 => exact (Kd.R_reads' HO181.out).2.1); rintro e w202 ⟨rfl, hb⟩; refine ⟨_, rfl, ?_⟩; have n0_ := Aside0.mk (Kd.R_below au8 hb); have n1_ := Aside0.mk (Kd.R_below au14 hb); have n2_ := Aside0.mk (Kd.R_below (by (with_reducible repeat (first | apply Kd.R_alloc | apply Kd.R_drewN | apply Kd.R_drew)); exact HO181.out) hb); have n3_ := Aside0.mk (blk_below (g := gb138) (o := .cells #[.int .i64 5, .int .i64 ji11, .int .i64 (-1)] 54 (0, 0)) au2 hb); have n4_ := Aside0.mk (blk_below (g := gb140) (o := .cells #[.int .i64 6, .int .i64 ji13, .int .i64 (-1)] 54 (0, 0)) au1 hb); have n5_ := Aside0.mk (blk_below (g := gb169) (o := .cells #[.int .i64 7, .int .i64 (wrap64 (ji11 + 2592000)), .int .i64 (-1)] 54 (0, 0)) au9 hb); have n6_ := Aside0.mk (below_step au4 hb); clear HO_9; clear HO178; clear HO181; clear BK138; clear BK140; clear BK169; clear HB; have HO_9 := n0_; have HO178 := n1_; have HO181 := n2_; have BK138 := n3_; have BK140 := n4_; have BK169 := n5_; have HB := n6_; clear n0_ n1_ n2_ n3_ n4_ n5_ n6_; (try clear hb); (try clear hb2); (try clear hk); (try clear hi); (try clear BK138)) | ((with_reducible refine gate_dst (N := 27) rfl ?_); (try (refine gate_guard (by rfl) ?_; dsimp only)); refine box_event ?hg (N := 27) ?hd (cs := #[.int .i64 0, .int .i64 0, .int .i64 0, .int .i64 0]) (t := 26) ?hr ?_; (case hd => rfl); (case hg => rfl); (case hr => first | (go_simp; done) | (go_simp; rfl)); intro gb188 hg w203 hbox hb; have n0_ := Aside0.mk (Kd.R_below au8 hb); have n1_ := Aside0.mk (Kd.R_below au14 hb); have n2_ := Aside0.mk (Kd.R_below (by (with_reducible repeat (first | apply Kd.R_alloc | apply Kd.R_drewN | apply Kd.R_drew)); exact HO181.out) hb); have n3_ := Aside0.mk (blk_below (g := gb140) (o := .cells #[.int .i64 6, .int .i64 ji13, .int .i64 (-1)] 54 (0, 0)) au1 hb); have n4_ := Aside0.mk (blk_below (g := gb169) (o := .cells #[.int .i64 7, .int .i64 (wrap64 (ji11 + 2592000)), .int .i64 (-1)] 54 (0, 0)) au9 hb); have n5_ := Aside0.mk (below_step au15 hb); have n6_ := Aside0.mk (hbox); have n7_ := Aside0.mk ((by rw [hg]; exact (below_size au15) : w.heap.size ≤ gb188)); have n8_ := Aside0.mk ((by rw [hg]; exact (below_size au15) : w.heap.size ≤ gb188)); have n9_ := Aside0.mk ((by rw [hg]; exact Nat.ne_of_lt (blk_lt (g := gb140) (o := .cells #[.int .i64 6, .int .i64 ji13, .int .i64 (-1)] 54 (0, 0)) au1) : gb140 ≠ gb188)); have n10_ := Aside0.mk ((by rw [hg]; exact Nat.ne_of_gt (blk_lt (g := gb140) (o := .cells #[.int .i64 6, .int .i64 ji13, .int .i64 (-1)] 54 (0, 0)) au1) : gb188 ≠ gb140)); have n11_ := Aside0.mk ((by rw [hg]; exact Nat.ne_of_lt (blk_lt (g := gb169) (o := .cells #[.int .i64 7, .int .i64 (wrap64 (ji11 + 2592000)), .int .i64 (-1)] 54 (0, 0)) au9) : gb169 ≠ gb188)); have n12_ := Aside0.mk ((by rw [hg]; exact Nat.ne_of_gt (blk_lt (g := gb169) (o := .cells #[.int .i64 7, .int .i64 (wrap64 (ji11 + 2592000)), .int .i64 (-1)] 54 (0, 0)) au9) : gb188 ≠ gb169)); clear HO_9; clear HO178; clear HO181; clear BK140; clear BK169; clear HB; have HO_9 := n0_; have HO178 := n1_; have HO181 := n2_; have BK140 := n3_; have BK169 := n4_; have HB := n5_; have BK188 := n6_; have GW188 := n7_; have GE188 := n8_; have NB140_188 := n9_; have NB188_140 := n10_; have NB169_188 := n11_; have NB188_169 := n12_; clear n0_ n1_ n2_ n3_ n4_ n5_ n6_ n7_ n8_ n9_ n10_ n11_ n12_; clear hb hbox hg; have hnb204 := NB188_140.out; have hnc204 := NB140_188.out; have hnb205 := NB188_169.out; have hnc205 := NB169_188.out; have hcz206_0 : w203.cell? ⟨gb188, 0, none⟩ = some (.int .i64 0) := (blk_cell BK188.out 0).trans rfl; have hcz206_1 : w203.cell? ⟨gb188, 1, none⟩ = some (.int .i64 0) := (blk_cell BK188.out 1).trans rfl; have hcz206_2 : w203.cell? ⟨gb188, 2, none⟩ = some (.int .i64 0) := (blk_cell BK188.out 2).trans rfl; have hcz206_3 : w203.cell? ⟨gb188, 3, none⟩ = some (.int .i64 0) := (blk_cell BK188.out 3).trans rfl; have hfz206_0 := blk_frozen BK188.out 0; have hfz206_1 := blk_frozen BK188.out 1; have hfz206_2 := blk_frozen BK188.out 2; have hfz206_3 := blk_frozen BK188.out 3; have hcz207_0 : w203.cell? ⟨gb169, 0, none⟩ = some (.int .i64 7) := (blk_cell BK169.out 0).trans rfl; have hcz207_1 : w203.cell? ⟨gb169, 1, none⟩ = some (.int .i64 (wrap64 (ji11 + 2592000))) := (blk_cell BK169.out 1).trans rfl; have hcz207_2 : w203.cell? ⟨gb169, 2, none⟩ = some (.int .i64 (-1)) := (blk_cell BK169.out 2).trans rfl; have hfz207_0 := blk_frozen BK169.out 0; have hfz207_1 := blk_frozen BK169.out 1; have hfz207_2 := blk_frozen BK169.out 2; have hcz208_0 : w203.cell? ⟨gb140, 0, none⟩ = some (.int .i64 6) := (blk_cell BK140.out 0).trans rfl; have hcz208_1 : w203.cell? ⟨gb140, 1, none⟩ = some (.int .i64 ji13) := (blk_cell BK140.out 1).trans rfl; have hcz208_2 : w203.cell? ⟨gb140, 2, none⟩ = some (.int .i64 (-1)) := (blk_cell BK140.out 2).trans rfl; have hfz208_0 := blk_frozen BK140.out 0; have hfz208_1 := blk_frozen BK140.out 1; have hfz208_2 := blk_frozen BK140.out 2) | ((with_reducible refine gate_builtin (b := .append) (xs := #[.tmp 180, .tmp 182]) rfl ?_); (try (refine gate_guard (by rfl) ?_; dsimp only)); at_builtin; refine Kd.R_append k54 (w0 := w) w.heap.size rfl (.tmp 180) (.tmp 182) 24 54 (.agg #[(.int .i64 0), (.int .i64 0), (.int .i64 0)]) 24 rfl Try.underlying24 info54 rfl (by decide) (by omega) (.slice Ao201 y179.length co201) y179 (⟨6, wrap64 (ji11 + 2592000), (-1)⟩ : S54) [.int .i64 6, .int .i64 (wrap64 (ji11 + 2592000)), .int .i64 (-1)] (fun k_ => some k_ ≠ (.slice Ao20 t127.length co20 : Value).ownBlock ∧ some k_ ≠ (.slice Ao200 y176.length co200 : Value).ownBlock ∧ k_ ≠ gb140 ∧ k_ ≠ gb169) (fun _ => False) rfl (by first | (go_simp; done) | (go_simp; rfl)) ?aP (fun _ hk => hk.elim) ?aF ?aO ?aB ?aS ?aL ?_; (case aP => exact k54_mkM _ _ _ (⟨6, wrap64 (ji11 + 2592000), (-1)⟩ : S54)); (case aB => exact au22); (case aF => exact (fun k_ hk => ⟨Kd.fresh' (Kd.R_lt au21) k_ hk, Kd.fresh' (Kd.R_lt au20) k_ hk, Kd.freshB (g := gb140) (o := .cells #[.int .i64 6, .int .i64 (wrap64 (ji11 + 2592000)), .int .i64 (-1)] 54 (0, 0)) au6 k_ hk, Kd.freshB (g := gb169) (o := .cells #[.int .i64 7, .int .i64 (wrap64 (ji11 + 2592000)), .int .i64 (-1)] 54 (0, 0)) au7 k_ hk⟩)); (case aO => exact au18); (case aS => exact (below_size au22)); (case aL => have := LMc181.out; omega); intro v190 w209 ho hb hg hat; rw [← Ny189.out] at ho; have n0_ := Aside0.mk (Kd.R_after (ok := (fun k_ => some k_ ≠ (.slice Ao200 y176.length co200 : Value).ownBlock ∧ k_ ≠ gb138 ∧ k_ ≠ gb140 ∧ k_ ≠ gb169)) au17 hg hat); have n1_ := Aside0.mk (blk_grown (g := gb140) (o := .cells #[.int .i64 6, .int .i64 (wrap64 (ji11 + 2592000)), .int .i64 (-1)] 54 (0, 0)) au6 hg (Kd.R_away HO181.out (fun _ hk => hk.2.2.2.1))); have n2_ := Aside0.mk (blk_grown (g := gb169) (o := .cells #[.int .i64 7, .int .i64 (wrap64 (ji11 + 2592000)), .int .i64 (-1)] 54 (0, 0)) au7 hg (Kd.R_away HO181.out (fun _ hk => hk.2.2.2.2))); have n3_ := Aside0.mk (Kd.R_after (ok := (fun k_ => some k_ ≠ (.slice Ao20 t127.length co20 : Value).ownBlock ∧ k_ ≠ gb138 ∧ k_ ≠ gb140 ∧ k_ ≠ gb169)) au16 hg hat); have n4_ := Aside0.mk (blk_grown (g := gb188) (o := .cells #[.int .i64 t182, .int .i64 t183, .int .i64 t184, .int .i64 t185] 26 (0, 0)) au13 hg (Kd.R_ne HO181.out BK188.out (by decide))); have n5_ := Aside0.mk (hb); have n6_ := Aside0.mk (ho); clear HO_9; clear BK140; clear BK169; clear HO178; clear BK188; clear HB; clear HO181; have HO_9 := n0_; have BK140 := n1_; have BK169 := n2_; have HO178 := n3_; have BK188 := n4_; have HB := n5_; have HO191 := n6_; clear n0_ n1_ n2_ n3_ n4_ n5_ n6_; clear ho hb hg hat; (try clear BK140); (try clear BK169); (try clear BK188); obtain ⟨Ao210, co210, eo210⟩ := Kd.R_slice HO191.out; subst eo210) | ((with_reducible refine gate_callee (f := 17) rfl ?_); refine goesL_ (some 184) rfl rfl Try.func17 au28 rfl #[.slice Ao210 y189.length co210] rfl au12 ?_; (with_reducible refine (life_Run.calls _ _ y189 t192 t193 t194 t195 t196 t197 _ ?side1 ?side2 A182.out).mono ?_); (case side1 => repeat (first | exact (Kd.R_reads' HO191.out).2.2 | (with_reducible refine Kd.C_alloc ?_ _) | (with_reducible refine Kd.C_drewN ?_ _) | (with_reducible refine Kd.C_drew ?_))); (case side2 => exact (Kd.R_reads' HO191.out).2.1); rintro e w211 ⟨rfl, hb⟩; refine ⟨_, rfl, ?_⟩; have n0_ := Aside0.mk (Kd.R_below au8 hb); have n1_ := Aside0.mk (Kd.R_below au14 hb); have n2_ := Aside0.mk (Kd.R_below (by (with_reducible repeat (first | apply Kd.R_alloc | apply Kd.R_drewN | apply Kd.R_drew)); exact HO191.out) hb); have n3_ := Aside0.mk (below_step au10 hb); clear HO_9; clear HO178; clear HO191; clear HB; have HO_9 := n0_; have HO178 := n1_; have HO191 := n2_; have HB := n3_; clear n0_ n1_ n2_ n3_; (try clear hb); (try clear hb2); (try clear hk); (try clear hi)) | ((with_reducible refine gate_dst (N := 30) rfl ?_); (try (refine gate_guard (by rfl) ?_; dsimp only)); refine box_event ?hg (N := 30) ?hd (cs := #[.int .i64 0, .int .i64 0, .int .i64 0, .int .i64 0]) (t := 26) ?hr ?_; (case hd => rfl); (case hg => rfl); (case hr => first | (go_simp; done) | (go_simp; rfl)); intro gb198 hg w212 hbox hb; have n0_ := Aside0.mk (Kd.R_below au8 hb); have n1_ := Aside0.mk (Kd.R_below au14 hb); have n2_ := Aside0.mk (Kd.R_below (by (with_reducible repeat (first | apply Kd.R_alloc | apply Kd.R_drewN | apply Kd.R_drew)); exact HO191.out) hb); have n3_ := Aside0.mk (below_step au10 hb); have n4_ := Aside0.mk (hbox); have n5_ := Aside0.mk ((by rw [hg]; exact (below_size au10) : w.heap.size ≤ gb198)); have n6_ := Aside0.mk ((by rw [hg]; exact (below_size au10) : w.heap.size ≤ gb198)); clear HO_9; clear HO178; clear HO191; clear HB; have HO_9 := n0_; have HO178 := n1_; have HO191 := n2_; have HB := n3_; have BK198 := n4_; have GW198 := n5_; have GE198 := n6_; clear n0_ n1_ n2_ n3_ n4_ n5_ n6_; clear hb hbox hg; have hcz213_0 : w212.cell? ⟨gb198, 0, none⟩ = some (.int .i64 0) := (blk_cell BK198.out 0).trans rfl; have hcz213_1 : w212.cell? ⟨gb198, 1, none⟩ = some (.int .i64 0) := (blk_cell BK198.out 1).trans rfl; have hcz213_2 : w212.cell? ⟨gb198, 2, none⟩ = some (.int .i64 0) := (blk_cell BK198.out 2).trans rfl; have hcz213_3 : w212.cell? ⟨gb198, 3, none⟩ = some (.int .i64 0) := (blk_cell BK198.out 3).trans rfl; have hfz213_0 := blk_frozen BK198.out 0; have hfz213_1 := blk_frozen BK198.out 1; have hfz213_2 := blk_frozen BK198.out 2; have hfz213_3 := blk_frozen BK198.out 3))
 go_ret
 exact ⟨by first | rfl | (simp [errW_none, errW_some] <;> rfl) | (simp only [← hji11, ← hji13]; first | rfl | (simp [errW_none, errW_some] <;> rfl)) | (simp [*, errW_none, errW_some] <;> rfl), by repeat (first | (with_reducible first | exact HB.out | apply below_alloc | apply pw_below_drewN | apply below_drew1 | refine below_set ?_ GE198.out) | exact HB.out)⟩



theorem dialtonelaw14_LifeRestores.calls (k : Nat) (A0 : Option Addr) (c0 : Nat) (l0 : List (S23)) (a1 : Int) (a2 : Int) (a3 : Int) (r : Bool) (w : World) (hr0 : Kd.C k23 w A0 l0.length l0) (hc0 : l0.length ≤ c0) (h : dialtonelaw14_LifeRestores.f k l0 a1 a2 a3 = some r) :
    Calls Try.prog 10 #[.slice A0 l0.length c0, .int .i64 a1, .int .i64 a2, .int .i64 a3] w fun e w' => e = .returned (.bool r) ∧ Below w.heap.size w w' :=
  (dialtonelaw14_LifeRestores.part1 k A0 c0 l0 a1 a2 a3 r w).property (PLift.up (dialtonelaw14_LifeRestores.part2 k A0 c0 l0 a1 a2 a3 r w)) hr0 hc0 h
end Go.Proofs.Yteilkigdlkeiaaa.Q
