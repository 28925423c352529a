/- WireSumAffine: the walk. -/
import Derived.Test.YtoiikkfhbpeemaaDoorSane
import Derived.Test.YtoiikkfhbpeemaaDoorKit
import Derived.Test.YtoiikkfhbpeemaaDoorAff
import Derived.WalkSpells
import Derived.BigQuiet
namespace Go.Proofs.YtoiikkfhbpeemaaDoor.Law9
set_option linter.unusedVariables false
set_option linter.unusedSimpArgs false
open Go Go.RowKit Go.Proofs.YtoiikkfhbpeemaaDoor.PutInt Go.Proofs.YtoiikkfhbpeemaaDoor.Str Go.Proofs.YtoiikkfhbpeemaaDoor.Aff Go.Proofs.YtoiikkfhbpeemaaDoor.Crc

/-- min of four, under one name -/
def mn4 (a b c d : Int) : Int := if d < (if c < (if b < a then b else a) then c else (if b < a then b else a)) then d else (if c < (if b < a then b else a) then c else (if b < a then b else a))
theorem min_four (ats : Array TypeId) (ty : TypeId) (k k1 k2 k3 : IntKind) (a b c d : Int) : Builtin.min_ ats ty #[.int k a, .int k1 b, .int k2 c, .int k3 d] = pure (.int k (mn4 a b c d)) := by
  simp only [Kit.min_4, Kit.min2_i, mn4, pure_bind]
attribute [local go_sem] min_four

theorem min4 (a b c : Nat) : ∃ n : Nat, n ≤ a ∧ n ≤ b ∧ n ≤ c ∧ n ≤ 200 ∧ mn4 a b c 200 = (n : Int) := by
  refine ⟨min (min (min a b) c) 200, by omega, by omega, by omega, by omega, ?_⟩
  unfold mn4
  split <;> split <;> split <;> omega

theorem below_drewN {B : Nat} {a w : World} (h : Below B a w) (n : Nat) : Below B a (w.drewN n) := ⟨h.os, h.tape, h.output, h.size, h.block⟩

theorem info : (Tryd.prog.info? 5).map (fun i => (i.zero, i.size, i.bytes)) = some (some (.int .u8 0), 1, 1) := by kernel_rfl

def X (a b c : ByteArray) (i : Nat) : Nat := (a.data.toList.getD i 0).toNat ^^^ (b.data.toList.getD i 0).toNat ^^^ (c.data.toList.getD i 0).toNat
theorem X_lt (a b c : ByteArray) (i : Nat) : X a b c i < 256 := Nat.xor_lt_two_pow (n := 8) (Nat.xor_lt_two_pow (n := 8) (UInt8.toNat_lt _) (UInt8.toNat_lt _)) (UInt8.toNat_lt _)

theorem at_eq (a : ByteArray) (k : Nat) (h : k < a.size) : a[k] = a.data.toList.getD k 0 := by
  have hl : k < a.data.toList.length := by simpa using h
  rw [List.getD_eq_getElem?_getD, List.getElem?_eq_getElem hl]; rfl

theorem sum_eq (a b c : ByteArray) (n : Nat) (ha : n ≤ a.size) (hb : n ≤ b.size) (hc : n ≤ c.size) :
    sum ((List.range n).map fun i => UInt8.ofNat (X a b c i)) = sum (a.extract 0 n).data.toList ^^^ sum (b.extract 0 n).data.toList ^^^ sum (c.extract 0 n).data.toList := by
  rw [cut_data, cut_data, cut_data]
  refine sum_xor3 n _ _ _ _ (by simp; omega) (by simp; omega) (by simp; omega) (by simp) fun j hj => ?_
  have e : ∀ l : List UInt8, (l.take n).getD j 0 = l.getD j 0 := fun l => by
    rw [List.getD_eq_getElem?_getD, List.getD_eq_getElem?_getD, List.getElem?_take, if_pos hj]
  have e2 : ((List.range n).map fun i => UInt8.ofNat (X a b c i)).getD j 0 = UInt8.ofNat (X a b c j) := by
    rw [List.getD_eq_getElem?_getD]; simp [hj]
  rw [e, e, e, e2, UInt8.toNat_ofNat', Nat.mod_eq_of_lt (X_lt a b c j)]
  rfl

theorem sum_q (s : ByteArray) (w : World) (hs : s.size ≤ 300) (hL : Sum.Laid w) :
    Calls Tryd.prog 21 #[.string s] w fun e w' => e = .returned (.int .i64 (sum s.data.toList : Nat)) ∧ w' = w :=
  (Sum.sum_any s w (by unfold maxLen; omega) hL).mono fun e w' h => ⟨h.1, h.2.symm⟩

attribute [local irreducible] ByteArray.extract

set_option maxRecDepth 100000 in
set_option maxHeartbeats 1000000 in
theorem walk (a b c : ByteArray) (w : World) (hsa : a.size ≤ 140737488351232) (hsb : b.size ≤ 140737488351232) (hsc : c.size ≤ 140737488351232) (hL : Sum.Laid w) :
    Calls Tryd.prog 9 #[.string a, .string b, .string c] w fun e w' => e = .returned (.bool true) ∧ Below w.heap.size w w' := by
  have HL := Lib.hid hL
  clear hL
  obtain ⟨n, hna, hnb, hnc, hn, hm⟩ := min4 a.size b.size c.size
  have hmk := run_make_row' (P := Tryd.prog) 38 5 (.int .u8 0) 1 Tryd.underlying38 info rfl .i64 .i64 n (by omega) (by omega)
  go_enter Tryd.func9, Tryd.ntmps9
  go_wp2_with fail
  refine (Sane.any _ HL.out).mono ?_
  rintro e w1 ⟨rfl, hB1⟩
  have HB1 := Lib.hid hB1
  clear hB1
  go_wp2_with fail
  have HR := Lib.hid (World.rowIs_made w1 (.int .u8 0) n 5)
  generalize hW2 : w1.alloc (.cells (madeCells #[.int .u8 0] n) 5) = w2 at HR
  have HB2 := Lib.hid (show Below w1.heap.size w1 w2 by rw [← hW2]; exact (Below.refl _ _).alloc (Nat.le_refl _) _)
  clear hW2
  go_loopw [10] (fun t wr => ∃ k : Nat, k ≤ n ∧ t = .int .i64 k ∧ Hid (wr.rowIs w1.heap.size 5 n (fun j => .int .u8 ((if j < k then X a b c j else 0 : Nat) : Int))) ∧ Hid (Below w1.heap.size w1 wr)) (fun t _ => n - (intOf t).toNat)
  case atStart => exact ⟨0, by omega, rfl, HR.out.congr (fun j hj => by simp), HB2.out⟩
  case round =>
    obtain ⟨k, hk, rfl, HRr, HBr⟩ := hrel
    by_cases hlt : k < n
    · have ka : k < a.size := by omega
      have kb : k < b.size := by omega
      have kc : k < c.size := by omega
      obtain ⟨x1, x2, e1, e2, hx2, hx⟩ := xor_at a[k] b[k] c[k]
      have HX := Lib.hid (show x2 = X a b c k by rw [hx, X, at_eq a k ka, at_eq b k kb, at_eq c k kc])
      clear hx
      have hfz := HRr.out.frozen k
      have hcl := HRr.out.cell hlt
      go_wp2_with fail
      go_region
      go_wp2
      go_roundw
      case rel =>
        refine ⟨k + 1, by omega, by go_num, ?_, ?_⟩
        · refine (HRr.out.set k (.int .u8 x2)).congr fun j hj => ?_
          by_cases hjk : j = k
          · subst hjk; rw [if_pos rfl, if_pos (by omega), HX.out]
          · rw [if_neg hjk]
            by_cases hl : j < k
            · rw [if_pos hl, if_pos (by omega)]
            · rw [if_neg hl, if_neg (by omega)]
        · exact HBr.out.drew.setCell (p := ⟨w1.heap.size, k, none⟩) (Nat.le_refl _) _
      case measure => simp [intOf]; omega
    · obtain rfl : k = n := by omega
      clear hlt hk
      have hcv : ∀ q, (convert 38 9 (.slice (some ⟨w1.heap.size, 0, none⟩) k k)).run Tryd.prog (wr.drewN q) = .ok (.string (bs ((List.range k).map fun i => UInt8.ofNat (X a b c i)))) (wr.drewN q) := fun q => conv_row w1.heap.size k k (wr.drewN q) (X a b c) fun i hi => by
        have := HRr.out.cell hi
        rw [if_pos hi] at this
        exact this
      have HLr := Lib.hid (fun q => show Sum.Laid (wr.drewN q) from (HL.out.below HB1.out).below (below_drewN HBr.out q))
      have hsX := sum_eq a b c k hna hnb hnc
      have hbsz : (bs ((List.range k).map fun i => UInt8.ofNat (X a b c i))).size ≤ 200 := by rw [bs_size]; simp; omega
      rw [← bs_data ((List.range k).map fun i => UInt8.ofNat (X a b c i))] at hsX
      generalize bs ((List.range k).map fun i => UInt8.ofNat (X a b c i)) = x at hcv hsX hbsz
      have hma : (a.extract 0 k).size ≤ 200 := by rw [ByteArray.size_extract]; omega
      have hmb : (b.extract 0 k).size ≤ 200 := by rw [ByteArray.size_extract]; omega
      have hmc : (c.extract 0 k).size ≤ 200 := by rw [ByteArray.size_extract]; omega
      obtain ⟨t1, t2, e1, e2, ht⟩ := xor_sums (sum (a.extract 0 k).data.toList) (sum (b.extract 0 k).data.toList) (sum (c.extract 0 k).data.toList) (sum_lt _) (sum_lt _) (sum_lt _)
      rw [← ht] at hsX
      clear ht
      have S1 := Lib.hid (fun w hL => sum_q x w (by omega) hL)
      have S2 := Lib.hid (fun w hL => sum_q (a.extract 0 k) w (by omega) hL)
      have S3 := Lib.hid (fun w hL => sum_q (b.extract 0 k) w (by omega) hL)
      have S4 := Lib.hid (fun w hL => sum_q (c.extract 0 k) w (by omega) hL)
      clear hma hmb hmc hbsz
      generalize sum x.data.toList = y0 at S1 hsX
      generalize sum (a.extract 0 k).data.toList = y1 at S2 e1
      generalize sum (b.extract 0 k).data.toList = y2 at S3 e1
      generalize sum (c.extract 0 k).data.toList = y3 at S4 e2
      subst hsX
      go_wp2_with fail
      go_quiet (first | (go_at_call 21; with_reducible refine Calls.quiet_of_same (S1.out _ (HLr.out _))) | (go_at_call 21; with_reducible refine Calls.quiet_of_same (S2.out _ (HLr.out _))) | (go_at_call 21; with_reducible refine Calls.quiet_of_same (S3.out _ (HLr.out _))) | (go_at_call 21; with_reducible refine Calls.quiet_of_same (S4.out _ (HLr.out _))))
      go_wp2
      go_ret
      exact ⟨rfl, HB1.out.trans (below_drewN (HBr.out.mono HB1.out.size) _)⟩
end Go.Proofs.YtoiikkfhbpeemaaDoor.Law9
