/- WireSumBurst: the walk. -/
import Derived.Test.YtoiikkfhbpeemaaDoorSane
import Derived.Test.YtoiikkfhbpeemaaDoorKit
import Derived.Test.YtoiikkfhbpeemaaDoorBurst
import Derived.WalkSpells
import Derived.BigQuiet
namespace Go.Proofs.YtoiikkfhbpeemaaDoor.Law8
set_option linter.unusedVariables false
set_option linter.unusedSimpArgs false
open Go Go.RowKit Go.Proofs.YtoiikkfhbpeemaaDoor.PutInt Go.Proofs.YtoiikkfhbpeemaaDoor.Str Go.Proofs.YtoiikkfhbpeemaaDoor.Aff Go.Proofs.YtoiikkfhbpeemaaDoor.Burst
attribute [local go_sem] Kit.min2_i Kit.min_2

theorem below_drewN {B : Nat} {a w : World} (h : Below B a w) (n : Nat) : Below B a (w.drewN n) := ⟨h.os, h.tape, h.output, h.size, h.block⟩

theorem sum_q (s : ByteArray) (w : World) (hs : s.size ≤ 300) (hL : Sum.Laid w) :
    Calls Tryd.prog 21 #[.string s] w fun e w' => e = .returned (.int .i64 (Crc.sum s.data.toList : Nat)) ∧ w' = w :=
  (Sum.sum_any s w (by unfold maxLen; omega) hL).mono fun e w' h => ⟨h.1, h.2.symm⟩

theorem shl_at (x : UInt8) (r : Nat) (hr : r < 8) : ∃ v : UInt8, bits BinOp.xor IntKind.u8 (x.toNat : Int) ((2 : Int) ^ r % 256) = (v.toNat : Int) ∧ v.toNat = x.toNat ^^^ 2 ^ r := by
  have h2 : 2 ^ r < 256 := by
    have : (2 : Nat) ^ r < 2 ^ 8 := Nat.pow_lt_pow_right (by decide) hr
    simpa using this
  have h3 : x.toNat ^^^ 2 ^ r < 256 := Nat.xor_lt_two_pow (n := 8) x.toNat_lt h2
  have e : (2 : Int) ^ r % 256 = ((2 ^ r : Nat) : Int) := by
    rw [show (2 : Int) ^ r = ((2 ^ r : Nat) : Int) by simp]
    exact Int.emod_eq_of_lt (Int.natCast_nonneg _) (Int.ofNat_lt.2 h2)
  refine ⟨UInt8.ofNat (x.toNat ^^^ 2 ^ r), ?_, ?_⟩
  · rw [e, u8_xor_nat _ _ x.toNat_lt h2, UInt8.toNat_ofNat', Nat.mod_eq_of_lt h3]
  · rw [UInt8.toNat_ofNat', Nat.mod_eq_of_lt h3]

attribute [local irreducible] ByteArray.extract

set_option maxRecDepth 100000 in
set_option maxHeartbeats 1000000 in
theorem walk (s : ByteArray) (at_ pat : Int) (w : World) (hs : s.size ≤ 140737488351232) (ha : I64 at_) (hp : 0 ≤ pat ∧ pat ≤ 4294967295) (hL : Sum.Laid w) :
    Calls Tryd.prog 8 #[.string s, .int .i64 at_, .int .u32 pat] w fun e w' => e = .returned (.bool true) ∧ Below w.heap.size w w' := by
  have HL := Lib.hid hL
  have Ha := Lib.hid ha
  clear hL ha
  obtain ⟨m, hm1, hm2, hm3, hm4⟩ := Kit.cut_facts s 300
  rw [show ((300 : Nat) : Int) = 300 from rfl] at hm1
  clear hm4
  have hcv0 := fun w => Lib.run_convert_string_bytes (P := Tryd.prog) w 9 38 5 (s.extract 0 m) Tryd.underlying9 Tryd.underlying38 Tryd.underlying5
  go_enter Tryd.func8, Tryd.ntmps8
  go_wp2_with fail
  refine (Sane.any _ HL.out).mono ?_
  rintro e w1 ⟨rfl, hB1⟩
  have HB1 := Lib.hid hB1
  clear hB1
  have hms : (s.extract 0 m).size = m := by rw [ByteArray.size_extract]; omega
  have hm300 : m ≤ 300 := by omega
  have HW := Lib.hid (born_below w1 5 (s.extract 0 m))
  have HR := Lib.hid (Row.born w1 5 (s.extract 0 m))
  by_cases hm0 : m = 0
  · have b1 : ((m : Int) == 0) = true := by rw [hm0]; rfl
    have Hm0 := Lib.hid hm0
    clear hm0
    go_wp2
    all_goals go_ret
    all_goals exact ⟨rfl, HB1.out.trans (HW.out.mono HB1.out.size)⟩
  have b1 : ((m : Int) == 0) = false := by rw [beq_eq_false_iff_ne]; omega
  by_cases hp0 : pat = 0
  · subst hp0
    go_wp2
    all_goals go_ret
    all_goals exact ⟨rfl, HB1.out.trans (HW.out.mono HB1.out.size)⟩
  have b2 : (pat == 0) = false := by rw [beq_eq_false_iff_ne]; exact hp0
  go_wp2_with fail
  have hA : (s.extract 0 m).data.toList.length = m := by simpa using hms
  have HS2 := Lib.hid (fun w hL => sum_q (s.extract 0 m) w hm3 hL)
  generalize hAA : (s.extract 0 m).data.toList = A at HR hA HS2
  clear hcv0 b1 b2 hp0 hm3
  refine (pick_any at_ _ _ Ha.out (by omega)).mono ?_
  rintro e w3 ⟨rfl, rfl⟩
  obtain ⟨f, hf⟩ : ∃ f : Nat, pk at_ % (8 * (m : Int)) = f := ⟨(pk at_ % (8 * (m : Int))).toNat, by have := Int.emod_nonneg (pk at_) (b := 8 * (m : Int)) (by omega); omega⟩
  have hfm : f < 8 * m := by have := Int.emod_lt_of_pos (pk at_) (b := 8 * (m : Int)) (by omega); omega
  rw [hf]
  clear hf
  have HB0 := Lib.hid (HB1.out.trans (HW.out.mono HB1.out.size))
  have HL0 := Lib.hid ((HL.out.below HB1.out).below HW.out)
  generalize Lib.bytesWorld w1 5 (s.extract 0 m) = W0 at HW HR HB0 HL0
  generalize grownCap w1 m 0 5 = cap
  go_wp2_with fail
  have HM := Lib.hid hms
  have Hex := Lib.hid hAA
  clear hms hAA hm1 hm0
  go_loopw [10, 11] (fun ch t wr => ∃ (i M : Nat) (x : List UInt8) (b : Bool), i ≤ 32 ∧ f + i ≤ 8 * m ∧ t = .int .i64 i ∧ ch = .bool b ∧ x.length = m ∧ Hid (b = decide (M ≠ 0)) ∧ Hid (M < 2 ^ i) ∧ Hid (NN x = NN A ^^^ 2 ^ f * M) ∧ Hid (Row wr w1.heap.size x) ∧ Hid (Below w1.heap.size w1 wr)) (fun _ t _ => 32 - (intOf t).toNat)
  case atStart => exact ⟨0, 0, A, false, by omega, by omega, rfl, rfl, hA, rfl, Nat.zero_lt_one, by simp [Hid], HR.out, HW.out⟩
  case round =>
    obtain ⟨i, M, x, b, hi, hfi, rfl, rfl, hx, Hb, HM2, HN, HRx, HBx⟩ := hrel
    by_cases hi2 : i < 32
    · by_cases hfi2 : f + i < 8 * m
      · rcases hbit : ((pat / 2 ^ i).tmod 2 == 1) with _ | _
        · go_wp2
          go_roundw
          case rel => exact ⟨i + 1, M, x, b, by omega, by omega, by go_num, rfl, hx, Hb, Nat.lt_of_lt_of_le HM2 (Nat.pow_le_pow_right (by decide) (by omega)), HN, HRx, HBx⟩
          case measure => simp [intOf]; omega
        · obtain ⟨j, r, hjr, hr⟩ : ∃ j r : Nat, f + i = 8 * j + r ∧ r < 8 := ⟨(f + i) / 8, (f + i) % 8, by omega, by omega⟩
          have hj : j < m := by omega
          have hji : (j : Int) < (m : Int) := by omega
          have q1 : ((f : Int) + (i : Int)) / 8 = (j : Int) := by omega
          have q2 : ((f : Int) + (i : Int)).tdiv 8 = (j : Int) := by rw [Int.tdiv_eq_ediv_of_nonneg (by omega)]; exact q1
          have q3 : ((f : Int) + (i : Int)) % 8 = (r : Int) := by omega
          have q4 : ((f : Int) + (i : Int)).tmod 8 = (r : Int) := by rw [Int.tmod_eq_emod_of_nonneg (by omega)]; exact q3
          have hcl := HRx.out.cell (i := j) (by omega)
          have hfz := HRx.out.frozen (i := j) (by omega)
          obtain ⟨v, hv1, hv2⟩ := shl_at x[j] r hr
          have HV := Lib.hid (NN_set x j r v (by omega) (by rw [hv2, List.getD_eq_getElem?_getD, List.getElem?_eq_getElem (by omega)]; rfl))
          have HRn := Lib.hid (HRx.out.set j v).drew
          have HBn := Lib.hid (HBx.out.setCell (p := ⟨w1.heap.size, j, none⟩) (Nat.le_refl _) (.int .u8 v.toNat)).drew
          obtain ⟨c1, c2, c3⟩ := more HN.out HM2.out
          have C1 := Lib.hid c1
          have C2 := Lib.hid c2
          have C3 := Lib.hid c3
          clear c1 c2 c3 hv2
          have Hjr := Lib.hid hjr
          clear hjr
          go_wp2_with fail
          go_region
          generalize (wr.setCell { block := w1.heap.size, off := j } (Value.int IntKind.u8 v.toNat)).drew = W3 at HRn HBn
          go_wp2
          go_roundw
          case rel => exact ⟨i + 1, M ^^^ 2 ^ i, x.set j v, true, by omega, by omega, by go_num, rfl, by simpa using hx, (decide_eq_true C3.out).symm, C2, HV.out.trans (by rw [← Hjr.out]; exact C1.out), HRn, HBn⟩
          case measure => simp [intOf]; omega
      · have hcv : ∀ q, (convert 38 9 (.slice (some ⟨w1.heap.size, 0, none⟩) m cap)).run Tryd.prog (wr.drewN q) = .ok (.string (bs x)) (wr.drewN q) := fun q => by
          rw [← hx]; exact conv_list w1.heap.size cap (wr.drewN q) x HRx.out
        have HLr := Lib.hid (fun q => show Sum.Laid (wr.drewN q) from (HL.out.below HB1.out).below (below_drewN HBx.out q))
        have hbsz : (bs x).size ≤ 300 := by rw [bs_size]; omega
        have S1 := Lib.hid (fun w hL => sum_q (bs x) w hbsz hL)
        rw [bs_data] at S1
        have hne := sum_ne (hx.trans hA.symm) HN.out HM2.out hi (by omega)
        clear hbsz
        generalize bs x = X at hcv S1
        generalize Crc.sum x = y0 at S1 hne
        generalize Crc.sum A = y1 at HS2 hne
        by_cases hM0 : M = 0
        · obtain rfl := hne.2 hM0
          obtain rfl : b = false := Hb.out.trans (decide_eq_false fun h => h hM0)
          clear hne
          go_wp2_with fail
          go_quiet (first | (go_at_call 21; with_reducible refine Calls.quiet_of_same (S1.out _ (HLr.out _))) | (go_at_call 21; with_reducible refine Calls.quiet_of_same (HS2.out _ (HLr.out _))))
          go_wp2
          go_ret
          exact ⟨rfl, HB1.out.trans (below_drewN (HBx.out.mono HB1.out.size) _)⟩
        · obtain rfl : b = true := Hb.out.trans (decide_eq_true hM0)
          have hy : ((y0 : Int) == (y1 : Int)) = false := by rw [beq_eq_false_iff_ne]; intro h; exact hM0 (hne.1 (by omega))
          have hy2 : (y0 == y1) = false := by rw [beq_eq_false_iff_ne]; intro h; exact hM0 (hne.1 h)
          have hy3 : ((y0 : Int) != (y1 : Int)) = true := by simp [bne, hy]
          clear hne
          go_wp2_with fail
          go_quiet (first | (go_at_call 21; with_reducible refine Calls.quiet_of_same (S1.out _ (HLr.out _))) | (go_at_call 21; with_reducible refine Calls.quiet_of_same (HS2.out _ (HLr.out _))))
          go_wp2
          go_ret
          exact ⟨rfl, HB1.out.trans (below_drewN (HBx.out.mono HB1.out.size) _)⟩
    · have hcv : ∀ q, (convert 38 9 (.slice (some ⟨w1.heap.size, 0, none⟩) m cap)).run Tryd.prog (wr.drewN q) = .ok (.string (bs x)) (wr.drewN q) := fun q => by
        rw [← hx]; exact conv_list w1.heap.size cap (wr.drewN q) x HRx.out
      have HLr := Lib.hid (fun q => show Sum.Laid (wr.drewN q) from (HL.out.below HB1.out).below (below_drewN HBx.out q))
      have hbsz : (bs x).size ≤ 300 := by rw [bs_size]; omega
      have S1 := Lib.hid (fun w hL => sum_q (bs x) w hbsz hL)
      rw [bs_data] at S1
      have hne := sum_ne (hx.trans hA.symm) HN.out HM2.out hi (by omega)
      clear hbsz
      generalize bs x = X at hcv S1
      generalize Crc.sum x = y0 at S1 hne
      generalize Crc.sum A = y1 at HS2 hne
      by_cases hM0 : M = 0
      · obtain rfl := hne.2 hM0
        obtain rfl : b = false := Hb.out.trans (decide_eq_false fun h => h hM0)
        clear hne
        go_wp2_with fail
        go_quiet (first | (go_at_call 21; with_reducible refine Calls.quiet_of_same (S1.out _ (HLr.out _))) | (go_at_call 21; with_reducible refine Calls.quiet_of_same (HS2.out _ (HLr.out _))))
        go_wp2
        go_ret
        exact ⟨rfl, HB1.out.trans (below_drewN (HBx.out.mono HB1.out.size) _)⟩
      · obtain rfl : b = true := Hb.out.trans (decide_eq_true hM0)
        have hy : ((y0 : Int) == (y1 : Int)) = false := by rw [beq_eq_false_iff_ne]; intro h; exact hM0 (hne.1 (by omega))
        have hy2 : (y0 == y1) = false := by rw [beq_eq_false_iff_ne]; intro h; exact hM0 (hne.1 h)
        have hy3 : ((y0 : Int) != (y1 : Int)) = true := by simp [bne, hy]
        clear hne
        go_wp2_with fail
        go_quiet (first | (go_at_call 21; with_reducible refine Calls.quiet_of_same (S1.out _ (HLr.out _))) | (go_at_call 21; with_reducible refine Calls.quiet_of_same (HS2.out _ (HLr.out _))))
        go_wp2
        go_ret
        exact ⟨rfl, HB1.out.trans (below_drewN (HBx.out.mono HB1.out.size) _)⟩
end Go.Proofs.YtoiikkfhbpeemaaDoor.Law8
