/- wire.Sum, by its contract: the checksum, in every world whose table holds its sixteen numbers. -/
import Derived.Test.YtoiikkfhbpeemaaDoorProg
import Derived.Test.YtoiikkfhbpeemaaDoorCrcDefs
import Derived.WalkKit
import Derived.Below
import Derived.Laws.BitsAllLaws
import Derived.Lib.Hide
namespace Go.Proofs.YtoiikkfhbpeemaaDoor.Sum
set_option linter.unusedVariables false
set_option linter.unusedSimpArgs false
open Go Go.RowKit Go.Proofs.YtoiikkfhbpeemaaDoor.Crc

/-- the table holds its sixteen numbers -/
def Laid (w : World) : Prop := 0 < w.heap.size ∧ ∀ j, j < 16 → w.cell? ⟨0, j, none⟩ = some (.int .u32 (tab.getD j 0 : Nat))

theorem Laid.below {w w' : World} (h : Laid w) (hb : Below w.heap.size w w') : Laid w' :=
  ⟨Nat.lt_of_lt_of_le h.1 hb.size, fun j hj => (hb.cell (p := ⟨0, j, none⟩) h.1).trans (h.2 j hj)⟩

theorem xor_u32 (a b : Nat) (ha : a < 4294967296) (hb : b < 4294967296) : bits BinOp.xor IntKind.u32 (a : Int) (b : Int) = ((a ^^^ b : Nat) : Int) := u32_xor_nat a b ha hb
theorem and15 (a : Nat) (ha : a < 4294967296) : bits BinOp.and IntKind.u32 (a : Int) 15 = ((a % 16 : Nat) : Int) := by
  have := u32_and_nat a 15 ha (by decide)
  rw [show ((15 : Nat) : Int) = 15 from rfl] at this
  rw [this, show a &&& 15 = a % 16 from Nat.and_two_pow_sub_one_eq_mod a 4]

/-- what the walk asks of one use of the table -/
theorem half_facts (w : World) (HL : ∀ j, j < 16 → w.cell? ⟨0, j, none⟩ = some (.int .u32 (tab.getD j 0 : Nat))) (x : Nat) (hx : x < 4294967296) :
    ∃ m t y : Nat, bits BinOp.and IntKind.u32 (x : Int) 15 = (m : Int) ∧ m < 16 ∧ w.cell? ⟨0, m, none⟩ = some (.int .u32 t) ∧ bits BinOp.xor IntKind.u32 ((x : Int) / 16) (t : Int) = (y : Int) ∧ y < 4294967296 ∧ y = half x := by
  refine ⟨x % 16, tab.getD (x % 16) 0, half x, and15 x hx, by omega, HL _ (by omega), ?_, half_lt hx, rfl⟩
  have := xor_u32 (x / 16) (tab.getD (x % 16) 0) (by omega) (tab_lt _ (by omega))
  rw [half, ← this]; congr 1

theorem xor_facts (q b : Nat) (hq : q < 4294967296) (hb : b < 256) : ∃ x : Nat, bits BinOp.xor IntKind.u32 (q : Int) (b : Int) = (x : Int) ∧ x < 4294967296 ∧ x = q ^^^ b :=
  ⟨q ^^^ b, xor_u32 q b hq (by omega), xor_lt hq (by omega), rfl⟩

theorem xor_ones (a : Nat) (h : a < 4294967296) : 4294967295 ^^^ a = 4294967295 - a := by
  have h1 : (BitVec.ofNat 32 a ^^^ BitVec.allOnes 32).toNat = a ^^^ 4294967295 := by
    rw [BitVec.toNat_xor, BitVec.toNat_allOnes, BitVec.toNat_ofNat, Nat.mod_eq_of_lt (by simpa using h)]
  have h2 : BitVec.ofNat 32 a ^^^ BitVec.allOnes 32 = ~~~ (BitVec.ofNat 32 a) := by
    rw [BitVec.not_def, BitVec.xor_comm]
  rw [Nat.xor_comm, ← h1, h2, BitVec.toNat_not, BitVec.toNat_ofNat, Nat.mod_eq_of_lt (by simpa using h)]

theorem not_u32 (q : Nat) (h : q < 4294967296) : wrap64 (bits BinOp.xor IntKind.u32 IntKind.u32.max (q : Int)) = ((4294967295 - q : Nat) : Int) := by
  have := xor_u32 4294967295 q (by decide) h
  rw [show IntKind.u32.max = ((4294967295 : Nat) : Int) by decide, this, xor_ones q h]
  unfold wrap64; omega

theorem ret_int {k : IntKind} {a b : Int} (h : a = b) : Ending.returned (.int k a) = .returned (.int k b) := by rw [h]

set_option maxHeartbeats 1000000 in
theorem sum_any (s : ByteArray) (w : World) (hs : s.size ≤ maxLen) (hL : Laid w) :
    Calls Tryd.prog 21 #[.string s] w fun e w' => e = .returned (.int .i64 (sum s.data.toList : Nat)) ∧ w = w' := by
  unfold maxLen at hs
  have HL := Lib.hid hL.2
  clear hL
  go_enter Tryd.func21, Tryd.ntmps21
  go_wp2
  go_loop [3, 7] (fun r i => ∃ k q : Nat, k ≤ s.size ∧ i = .int .i64 k ∧ r = .int .u32 q ∧ q < 4294967296 ∧ Hid (q = reg 4294967295 (s.data.toList.take k))) (fun _ i => s.size - (intOf i).toNat)
  case atStart => exact ⟨0, 4294967295, Nat.zero_le _, rfl, rfl, by decide, rfl⟩
  case round =>
    obtain ⟨k, q, hk, rfl, rfl, hq, Hq⟩ := hrel
    by_cases hlt : k < s.size
    · have hbl : s[k].toNat < 256 := s[k].toNat_lt
      have Hts := Lib.hid (List.take_succ_eq_append_getElem (l := s.data.toList) (i := k) (by simpa using hlt))
      obtain ⟨b, hb⟩ : ∃ b : Nat, s[k].toNat = b := ⟨_, rfl⟩
      rw [hb] at hbl
      have Hb := Lib.hid hb
      obtain ⟨x, e1, hx, Hx⟩ := xor_facts q b hq hbl
      obtain ⟨m1, t1, y, e2, hm1, c1, e3, hy, Hy⟩ := half_facts w HL.out x hx
      obtain ⟨m2, t2, z, e4, hm2, c2, e5, hz, Hz⟩ := half_facts w HL.out y hy
      have HX := Lib.hid Hx
      have HY := Lib.hid Hy
      have HZ := Lib.hid Hz
      clear Hx Hy Hz
      go_wp2
      go_round
      case rel =>
        refine ⟨k + 1, z, by omega, by go_num, rfl, hz, ?_⟩
        show z = _
        rw [Hts.out, reg_snoc, ← Hq.out, HZ.out, HY.out, HX.out, ← Hb.out]
        exact byte2_eq _ _
      case measure => simp [intOf]; omega
    · obtain rfl : k = s.size := by omega
      clear hlt hk
      go_wp2
      go_ret
      refine ⟨ret_int ?_, rfl⟩
      rw [not_u32 q hq, Hq.out, sum, List.take_of_length_le (by simp)]
end Go.Proofs.YtoiikkfhbpeemaaDoor.Sum
