/- dialtoneref01.PutInt and dialtoneref01.Sum, by their contracts. -/
import Derived.Test.YtoiikkfhbpeemaaDoorPutInt
import Derived.Test.YtoiikkfhbpeemaaDoorSum
import Derived.OwnWalk
namespace Go.Proofs.YtoiikkfhbpeemaaDoor.RefPut
set_option linter.unusedVariables false
set_option linter.unusedSimpArgs false
open Go Go.RowKit Go.Proofs.YtoiikkfhbpeemaaDoor.PutInt
open Go.Proofs.YtoiikkfhbpeemaaDoor.Groups (U64)
open Go.Proofs.YtoiikkfhbpeemaaDoor.Leb (zig leb leb_lt leb_ge putL InRange leb_len)
open Go.Proofs.YtoiikkfhbpeemaaDoor.Crc

theorem zigzag_any (n : Int) (w : World) (h : InRange n) : Calls Tryd.prog 24 #[.int .i64 n] w fun e w' => e = .returned (.int .u64 (zig n : Nat)) ∧ w = w' := by
  unfold InRange at h
  by_cases hn : n < 0
  · have t : decide (n < 0) = true := decide_eq_true hn
    have hz : ((zig n : Nat) : Int) = -n * 2 - 1 := by unfold zig; rw [if_pos hn]; omega
    have Hz := Lib.hid hz
    clear hz
    go_enter Tryd.func24, Tryd.ntmps24
    go_wp2
    go_ret
    exact ⟨Sum.ret_int Hz.out.symm, rfl⟩
  · have t : decide (n < 0) = false := decide_eq_false hn
    have hz : ((zig n : Nat) : Int) = n * 2 := by unfold zig; rw [if_neg hn]; omega
    have Hz := Lib.hid hz
    clear hz
    go_enter Tryd.func24, Tryd.ntmps24
    go_wp2
    go_ret
    exact ⟨Sum.ret_int Hz.out.symm, rfl⟩

def vals (l : List Nat) : List Value := l.map fun (b : Nat) => Value.int .u8 (b : Int)
theorem vals_snoc (l : List Nat) (b : Nat) : vals (l ++ [b]) = vals l ++ [.int .u8 b] := by simp [vals]
def byts (l : List Nat) : List UInt8 := l.map UInt8.ofNat
theorem byts_snoc (l : List Nat) (b : Nat) : byts (l ++ [b]) = byts l ++ [UInt8.ofNat b] := by simp [byts]

theorem leb_small {z : Nat} (h : U64 z) : (leb z).length ≤ 10 := leb_len 9 z (by rw [pow128]; unfold U64 at h; omega)

def strRes (l : List UInt8) (e : Int) : Ending := .returned (.tuple #[.string (bs l), .int .i64 e])
theorem strRes_eq {l m : List UInt8} (h : l = m) (e : Int) : Ending.returned (.tuple #[.string (bs l), .int .i64 e]) = .returned (.tuple #[.string (bs m), .int .i64 e]) := by rw [h]

theorem strOf {w : World} {base g cap m : Nat} {l : List Nat} (h : w.ownsRow base 5 1 (.slice (some ⟨g, 0, none⟩) m cap) m (vals l)) :
    (convert 38 9 (.slice (some ⟨g, 0, none⟩) m cap)).run Tryd.prog w = .ok (.string (bs (byts l))) w := by
  have hm : l.length = m := by have := h.1; simp [vals] at this; omega
  have := run_convert_bytes_arg (P := Tryd.prog) w 38 5 Tryd.underlying38 Tryd.underlying5 g 0 m cap (l.map fun b => ((b : Nat) : Int)) (by simpa using hm) (fun i hi => by
      have hlt : i < l.length := by omega
      rw [Nat.zero_add, h.cellAt i (by omega)]
      simp [vals, List.getD, List.getElem?_eq_getElem hlt]) 9 Tryd.underlying9
  rw [this]
  have e : strOfNums (l.map fun b => ((b : Nat) : Int)) = bs (byts l) := by
    rw [← bs_eq (strOfNums _), strOfNums_data, List.map_map]; rfl
  rw [e]

set_option maxHeartbeats 2000000 in
theorem good (n : Int) (w : World) (h : InRange n) :
    Calls Tryd.prog 13 #[.int .i64 n] w fun e w' => e = .returned (.tuple #[.string (bs (leb (zig n))), .int .i64 0]) ∧ Below w.heap.size w w' := by
  obtain ⟨i0, hi, hz0, hz1, hz2⟩ := info_parts info_u8
  have h1 := h.1
  have h2 := h.2
  have hu : U64 (zig n) := by have := Leb.zig_lt h; unfold U64; omega
  have t1 : decide (n < -4611686018427387903) = false := decide_eq_false (by omega)
  have t2 : decide (4611686018427387903 < n) = false := decide_eq_false (by omega)
  go_enter Tryd.func13, Tryd.ntmps13
  go_wp2_with (go_at_call 24; refine (zigzag_any n _ h).mono ?_; rintro e w' ⟨rfl, rfl⟩)
  clear t1 t2 h1 h2 h
  go_loopw [4, 5] (fun z v wr => ∃ (y : Nat) (pre : List Nat), z = .int .u64 y ∧ U64 y ∧ Hid (leb (zig n) = byts pre ++ leb y) ∧ pre.length + 1 ≤ 10 ∧ wr.ownsRow w.heap.size 5 1 v pre.length (vals pre) ∧ Below w.heap.size w wr) (fun z _ _ => (intOf z).toNat)
  case atStart => exact ⟨zig n, [], rfl, hu, rfl, by decide, World.ownsRow_nil _ _ _ _, Below.refl _ _⟩
  case round =>
    obtain ⟨y, pre, rfl, hy, Hl, hlen, hrow, hB⟩ := hrel
    by_cases hlt : y < 128
    · have t : decide (128 ≤ (y : Int)) = false := decide_eq_false (by omega)
      have hl2 := Hl.out
      rw [leb_lt hlt, ← byts_snoc] at hl2
      have Hl2 := Lib.hid hl2
      clear hl2
      have hmod : (y : Int) % 256 = y := by omega
      go_wp2_with (at_builtin; refine wpList_append_own _ rfl _ _ 38 rfl w.heap.size 5 i0 (.int .u8 0) 1 1 Tryd.underlying38 hi hz0 hz1 hz2 rfl (by decide) _ _ _ rfl (hrow.alloc _) ⟨wr.heap.size, 0, none⟩ 1 1 [.int .u8 (y : Int)] rfl rfl (cell_one_new _ _ _) (by simp [Value.oneCell']) (by unfold maxLen; omega) (by omega) (by have := hB.size; simp; omega) ?_; intro v' w1 hown' hgrow _; obtain ⟨g, cap, rfl⟩ := ownsRow_succ hown'; rw [← vals_snoc] at hown'; have hcv := strOf hown'; have hB1 := ((hB.alloc (hB.size) _).grown hgrow (by have := hB.size; simp; omega) (fun k e => (hrow.lt k e).1)))
      go_ret2
      exact ⟨strRes_eq Hl2.out.symm 0, hB1⟩
    · have t : decide (128 ≤ (y : Int)) = true := decide_eq_true (by omega)
      have hl2 := Hl.out
      rw [leb_ge hlt] at hl2
      have hl3 : leb (zig n) = byts (pre ++ [y % 128 + 128]) ++ leb (y / 128) := by rw [hl2, byts_snoc]; simp
      have hlen2 : (pre ++ [y % 128 + 128]).length + 1 ≤ 10 := by
        have h1 := leb_small hu
        have h2 := Leb.leb_pos (y / 128)
        rw [hl3] at h1
        simp [byts] at h1 ⊢; omega
      have Hl3 := Lib.hid hl3
      clear hl2 hl3
      have hv : Value.int .u8 ((y : Int) % 128 + 128) = .int .u8 ((y % 128 + 128 : Nat) : Int) := by simp
      have Hv := Lib.hid hv
      clear hv
      have hdiv : IntKind.u64.wrap ((y : Int) / 128) = ((y / 128 : Nat) : Int) := by rw [IntKind.wrap_u64]; unfold U64 at hy; omega
      go_wp2_with (at_builtin; refine wpList_append_own _ rfl _ _ 38 rfl w.heap.size 5 i0 (.int .u8 0) 1 1 Tryd.underlying38 hi hz0 hz1 hz2 rfl (by decide) _ _ _ rfl (hrow.alloc _) ⟨wr.heap.size, 0, none⟩ 1 1 [.int .u8 ((y : Int) % 128 + 128)] rfl rfl (cell_one_new _ _ _) (by simp [Value.oneCell']) (by unfold maxLen; omega) (by omega) (by have := hB.size; simp; omega) ?_; intro v' w1 hown' hgrow _; obtain ⟨g, cap, rfl⟩ := ownsRow_succ hown'; rw [Hv.out, ← vals_snoc] at hown'; have hB1 := ((hB.alloc (hB.size) _).grown hgrow (by have := hB.size; simp; omega) (fun k e => (hrow.lt k e).1)))
      go_roundw
      case rel => exact ⟨y / 128, pre ++ [y % 128 + 128], rfl, by unfold U64 at *; omega, Hl3.out, hlen2, by simpa using hown', hB1⟩
      case measure => simp [intOf]; omega

theorem any (n : Int) (w : World) :
    Calls Tryd.prog 13 #[.int .i64 n] w fun e w' => e = .returned (.tuple #[.string (bs (putL n).1), .int .i64 (putL n).2]) ∧ Below w.heap.size w w' := by
  by_cases h : InRange n
  · have e : putL n = (leb (zig n), 0) := by rw [putL, if_pos h]
    rw [e]; exact good n w h
  · have e : putL n = ([], 10) := by rw [putL, if_neg h]
    rw [e]
    have hn : n < -4611686018427387903 ∨ 4611686018427387903 < n := by unfold InRange at h; omega
    clear h e
    by_cases h1 : n < -4611686018427387903
    · have t1 : decide (n < -4611686018427387903) = true := decide_eq_true h1
      go_enter Tryd.func13, Tryd.ntmps13
      go_wp2
      go_ret2
      exact ⟨rfl, Below.refl _ _⟩
    · have t1 : decide (n < -4611686018427387903) = false := decide_eq_false h1
      have t2 : decide (4611686018427387903 < n) = true := decide_eq_true (by omega)
      clear h1 hn
      go_enter Tryd.func13, Tryd.ntmps13
      go_wp2
      go_ret2
      exact ⟨rfl, Below.refl _ _⟩

set_option maxHeartbeats 1000000 in
theorem sum_any (s : ByteArray) (w : World) (hs : s.size ≤ maxLen) :
    Calls Tryd.prog 22 #[.string s] w fun e w' => e = .returned (.int .i64 (sum s.data.toList : Nat)) ∧ w = w' := by
  unfold maxLen at hs
  go_enter Tryd.func22, Tryd.ntmps22
  go_wp2
  go_loop [3, 4] (fun r i => ∃ k q : Nat, k ≤ s.size ∧ i = .int .i64 k ∧ r = .int .u32 q ∧ q < 4294967296 ∧ Hid (q = reg 4294967295 (s.data.toList.take k))) (fun _ i => s.size - (intOf i).toNat)
  case atStart => exact ⟨0, 4294967295, Nat.zero_le _, rfl, rfl, by decide, rfl⟩
  case round =>
    obtain ⟨k, q, hk, rfl, rfl, hq, Hq⟩ := hrel
    by_cases hlt : k < s.size
    · have hbl : s[k].toNat < 256 := s[k].toNat_lt
      have Hts := Lib.hid (List.take_succ_eq_append_getElem (l := s.data.toList) (i := k) (by simpa using hlt))
      obtain ⟨b, hb⟩ : ∃ b : Nat, s[k].toNat = b := ⟨_, rfl⟩
      rw [hb] at hbl
      have Hb := Lib.hid hb
      obtain ⟨x, e1, hx, Hx⟩ := Sum.xor_facts q b hq hbl
      have HX := Lib.hid Hx
      clear Hx
      go_wp2
      go_loop [3, 5] (fun r i => ∃ j y : Nat, j ≤ 8 ∧ i = .int .i64 j ∧ r = .int .u32 y ∧ y < 4294967296 ∧ Hid (steps 8 x = steps (8 - j) y)) (fun _ i => 8 - (intOf i).toNat)
      case atStart => exact ⟨0, x, by omega, rfl, rfl, hx, rfl⟩
      case round =>
        obtain ⟨j, y, hj, rfl, rfl, hy, Hy⟩ := hrel
        by_cases hjl : j < 8
        · by_cases hodd : y % 2 = 1
          · obtain ⟨z, e2, hz, Hz⟩ : ∃ z : Nat, bits BinOp.xor IntKind.u32 ((y : Int) / 2) 2197175160 = (z : Int) ∧ z < 4294967296 ∧ z = Crc.step y := by
              refine ⟨Crc.step y, ?_, step_lt hy, rfl⟩
              have := Sum.xor_u32 (y / 2) 2197175160 (by omega) (by decide)
              rw [Crc.step, if_pos hodd, ← this]; congr 1
            have HZ := Lib.hid Hz
            clear Hz
            have t1 : ((y : Int) % 2 == 1) = true := by rw [beq_iff_eq]; omega
            go_wp2
            go_round
            case rel =>
              refine ⟨j + 1, z, by omega, by go_num, rfl, hz, ?_⟩
              show _ = _
              rw [Hy.out, show 8 - j = (8 - (j + 1)) + 1 by omega, HZ.out]; rfl
            case measure => simp [intOf]; omega
          · obtain ⟨z, e2, hz, Hz⟩ : ∃ z : Nat, ((y : Int) / 2) = (z : Int) ∧ z < 4294967296 ∧ z = Crc.step y := by
              refine ⟨Crc.step y, ?_, step_lt hy, rfl⟩
              rw [Crc.step, if_neg hodd]; omega
            have HZ := Lib.hid Hz
            clear Hz
            have t1 : ((y : Int) % 2 == 1) = false := by rw [beq_eq_false_iff_ne]; omega
            go_wp2
            go_round
            case rel =>
              refine ⟨j + 1, z, by omega, by go_num, rfl, hz, ?_⟩
              show _ = _
              rw [Hy.out, show 8 - j = (8 - (j + 1)) + 1 by omega, HZ.out]; rfl
            case measure => simp [intOf]; omega
        · obtain rfl : j = 8 := by omega
          clear hj hjl
          go_wp2
          go_round
          case rel =>
            refine ⟨k + 1, y, by omega, by go_num, rfl, hy, ?_⟩
            show y = _
            rw [Hts.out, reg_snoc, ← Hq.out]
            have := Hy.out
            rw [HX.out] at this
            simp only [Nat.sub_self, steps] at this
            rw [← this, ← Hb.out]
            rfl
          case measure => simp [intOf]; omega
    · obtain rfl : k = s.size := by omega
      clear hlt hk
      go_wp2
      go_ret
      refine ⟨Sum.ret_int ?_, rfl⟩
      rw [Sum.not_u32 q hq, Hq.out, sum, List.take_of_length_le (by simp)]

end Go.Proofs.YtoiikkfhbpeemaaDoor.RefPut
