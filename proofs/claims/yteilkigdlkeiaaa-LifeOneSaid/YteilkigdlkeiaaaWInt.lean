/- wire.Int, by its contract (as XInt, for a seat without the reference). -/
import Derived.Test.YteilkigdlkeiaaaPutInt
import Derived.OwnWalk
import Derived.Laws.DeepNot64
namespace Go.Proofs.Yteilkigdlkeiaaa.IntW
set_option linter.unusedVariables false
set_option linter.unusedSimpArgs false
open Go Go.RowKit Go.Proofs.Yteilkigdlkeiaaa.PutInt
open Go.Proofs.Yteilkigdlkeiaaa.Groups (U64)
open Go.Proofs.Yteilkigdlkeiaaa.Leb

/-- what Int returns, as a tuple -/
def res (x : Int × Int × Int) : Value := .tuple #[.int .i64 x.1, .int .i64 x.2.1, .int .i64 x.2.2]

theorem res_eq {x y : Int × Int × Int} (h : x = y) : Ending.returned (res x) = .returned (res y) := by rw [h]

theorem and127 (b : Nat) (h : b < 256) : IntKind.u64.wrap (bits BinOp.and IntKind.u8 (b : Int) 127) = ((b % 128 : Nat) : Int) := by
  have := u8_and_nat b 127 h (by decide)
  rw [show ((127 : Nat) : Int) = 127 from rfl] at this
  rw [this, show b &&& 127 = b % 128 from Nat.and_two_pow_sub_one_eq_mod b 7, IntKind.wrap_u64]
  omega

theorem pow128 (k : Nat) : (128 : Nat) ^ k = 2 ^ (7 * k) := by rw [Nat.pow_mul]
theorem pow_le (k : Nat) (h : k < 9) : 128 ^ k * 128 ≤ 9223372036854775808 := by
  have : 128 ^ (k + 1) ≤ 128 ^ 9 := Nat.pow_le_pow_right (by decide) (by omega)
  rw [Nat.pow_succ] at this
  rw [Leb.pow9] at this; exact this

/-- one more group -/
theorem or_facts (acc k m : Nat) (hk : k < 9) (ha : acc < 128 ^ k) (hm : m < 128) :
    ∃ v a2 : Nat, IntKind.u64.wrap ((m : Int) * 2 ^ (7 * k)) = (v : Int) ∧ bits BinOp.or IntKind.u64 (acc : Int) (v : Int) = (a2 : Int) ∧ a2 < 128 ^ (k + 1) ∧ a2 = acc + 128 ^ k * m := by
  have hp := pow_le k hk
  have hv : 128 ^ k * m ≤ 128 ^ k * 127 := Nat.mul_le_mul_left _ (by omega)
  have hlt : 128 ^ k * m < 9223372036854775808 := by omega
  refine ⟨128 ^ k * m, acc + 128 ^ k * m, ?_, ?_, ?_, rfl⟩
  · rw [IntKind.wrap_u64, pow128]
    have : (m : Int) * 2 ^ (7 * k) = ((2 ^ (7 * k) * m : Nat) : Int) := by rw [Int.natCast_mul, Int.natCast_pow]; exact Int.mul_comm _ _
    rw [this]
    rw [pow128] at hlt
    omega
  · rw [u64_or_nat _ _ (by omega) (by omega)]
    rw [pow128] at ha ⊢
    rw [Nat.or_comm, ← Nat.two_pow_add_eq_or_of_lt ha, Nat.add_comm]
  · rw [Nat.pow_succ]; omega

theorem unzig_bits (z : Nat) (h : z < 9223372036854775808) :
    bits BinOp.xor IntKind.i64 (wrap64 ((z : Int) / 2)) (wrap64 (-wrap64 (bits BinOp.and IntKind.u64 (z : Int) 1))) = unzig z := by
  have h1 : bits BinOp.and IntKind.u64 (z : Int) 1 = ((z % 2 : Nat) : Int) := by
    have := u64_and_nat z 1 (by omega) (by decide)
    rw [show ((1 : Nat) : Int) = 1 from rfl] at this
    rw [this, Nat.and_one_is_mod]
  have h2 : wrap64 ((z : Int) / 2) = ((z / 2 : Nat) : Int) := by unfold wrap64; omega
  rw [h1, h2]
  unfold unzig
  rcases Nat.mod_two_eq_zero_or_one z with hz | hz
  · rw [hz, if_neg (by decide)]
    have : wrap64 (-wrap64 ((0 : Nat) : Int)) = ((0 : Nat) : Int) := by unfold wrap64; omega
    rw [this]
    show IntKind.i64.wrap ((BitVec.ofInt 64 ((z / 2 : Nat) : Int) ^^^ BitVec.ofInt 64 ((0 : Nat) : Int)).toNat : Int) = _
    have h0 : BitVec.ofInt 64 ((0 : Nat) : Int) = 0#64 := by decide
    rw [h0, BitVec.xor_zero, ofInt_u64 _ (by omega), IntKind.wrap_i64]
    omega
  · rw [hz, if_pos rfl]
    have : wrap64 (-wrap64 ((1 : Nat) : Int)) = -1 := by unfold wrap64; omega
    rw [this]
    have hc : bits BinOp.xor IntKind.i64 ((z / 2 : Nat) : Int) (-1) = bits BinOp.xor IntKind.i64 (-1) ((z / 2 : Nat) : Int) := by
      show IntKind.i64.wrap ((BitVec.ofInt 64 _ ^^^ BitVec.ofInt 64 _).toNat : Int) = IntKind.i64.wrap ((BitVec.ofInt 64 _ ^^^ BitVec.ofInt 64 _).toNat : Int)
      rw [BitVec.xor_comm]
    rw [hc, i64_not _ (by omega)]
    omega

set_option maxRecDepth 100000 in
set_option maxHeartbeats 4000000 in
theorem inner (s : ByteArray) (p : Nat) (w : World) (hs : s.size ≤ 140737488351232) (hp : p ≤ s.size) :
    Calls Try.prog 55 #[.string s, .int .i64 p] w fun e w' => e = .returned (res (intL s.data.toList p)) ∧ w = w' := by
  have t1 : decide ((p : Int) < 0) = false := decide_eq_false (by omega)
  have t2 : decide (s.size < p) = false := decide_eq_false (by omega)
  have hp2 : p ≤ s.data.toList.length := by simpa using hp
  go_enter Try.func55, Try.ntmps55
  go_wp2
  go_loop [7, 19] (fun z i => ∃ k acc : Nat, k ≤ 9 ∧ i = .int .i64 k ∧ z = .int .u64 acc ∧ Hid (acc < 128 ^ k) ∧ Hid (rd 9 (s.data.toList.drop p) = cont k acc (rd (9 - k) (s.data.toList.drop (p + k))))) (fun _ i => 9 - (intOf i).toNat)
  case atStart => exact ⟨0, 0, by omega, rfl, rfl, by show 0 < _; decide, by show _ = _; rw [cont_zero]; rfl⟩
  case round =>
    obtain ⟨k, acc, hk, rfl, rfl, Hacc, Hr⟩ := hrel
    by_cases hlt : k < 9
    · obtain ⟨j, hj, hjn⟩ : ∃ j : Nat, (p : Int) + k = j ∧ j = p + k := ⟨p + k, by omega, rfl⟩
      have Hjn := Lib.hid hjn
      clear hjn
      by_cases hin : j < s.size
      · have hx : ∃ b : Nat, s[j].toNat = b ∧ b < 256 ∧ Hid (∃ h : p + k < s.data.toList.length, s.data.toList[p + k].toNat = b) :=
          ⟨s[j].toNat, rfl, s[j].toNat_lt, by
            have hjn := Hjn.out
            subst hjn
            exact ⟨by simpa using hin, rfl⟩⟩
        obtain ⟨b, hb, hbl, Hb⟩ := hx
        have e1 := and127 b hbl
        obtain ⟨m, hm, hml⟩ : ∃ m : Nat, b % 128 = m ∧ m < 128 := ⟨b % 128, rfl, by omega⟩
        rw [hm] at e1
        obtain ⟨v, a2, e2, e3, ha2, Ha2⟩ := or_facts acc k m hlt Hacc.out hml
        have HA2 := Lib.hid ha2
        have HAe := Lib.hid Ha2
        have Hm := Lib.hid hm
        have hlt63 : a2 < 9223372036854775808 := by
          have := pow_le k hlt
          rw [Nat.pow_succ] at ha2; omega
        have e4 := unzig_bits a2 hlt63
        generalize hn : unzig a2 = n at e4
        have Hn := Lib.hid hn
        clear ha2 Ha2 hn hm hlt63
        by_cases hge : 128 ≤ b
        · have t3 : decide (128 ≤ (b : Int)) = true := decide_eq_true (by omega)
          clear e4
          go_wp2
          go_round
          case rel =>
            refine ⟨k + 1, a2, by omega, by go_num, rfl, HA2.out, ?_⟩
            obtain ⟨h1, h2⟩ := Hb.out
            have := rd_more Hr.out hlt h1 (by omega)
            show _ = _
            rw [this, HAe.out, h2, ← Hm.out, show b - 128 = b % 128 by omega]
          case measure => simp [intOf]; omega
        · have t3 : decide (128 ≤ (b : Int)) = false := decide_eq_false (by omega)
          have hfin : rd 9 (s.data.toList.drop p) = if 0 < k ∧ b = 0 then none else some (a2, k + 1) := by
            obtain ⟨h1, h2⟩ := Hb.out
            have := rd_last Hr.out hlt h1 (by omega)
            rw [this, h2, HAe.out, ← Hm.out, show b % 128 = b by omega]
          have HI : ¬ (0 < k ∧ b = 0) → Hid (intL s.data.toList p = if n < -4611686018427387903 then (0, 0, 10) else (n, (p : Int) + (k + 1 : Nat), 0)) := fun hc => by
            rw [if_neg hc] at hfin
            have := intL_some hp2 hfin
            rw [Hn.out] at this
            exact this
          have HN : (0 < k ∧ b = 0) → Hid (intL s.data.toList p = (0, 0, 10)) := fun hc => by
            rw [if_pos hc] at hfin
            exact intL_none hp2 hfin
          have Hj : Hid ((p : Int) + (k + 1 : Nat) = j + 1) := by show _ = _; omega
          clear hfin
          by_cases hb0 : b = 0
          · have t4 : ((b : Int) == 0) = true := by rw [beq_iff_eq]; omega
            have t4n : (b == 0) = true := by rw [beq_iff_eq]; omega
            by_cases hk0 : 0 < k
            · have t5 : decide (0 < (k : Int)) = true := decide_eq_true (by omega)
              have t5n : decide (0 < k) = true := decide_eq_true hk0
              have HN2 := HN ⟨hk0, hb0⟩
              clear HN HI hb0 hk0
              go_wp2
              go_ret3
              exact ⟨res_eq HN2.out.symm, rfl⟩
            · have t5 : decide (0 < (k : Int)) = false := decide_eq_false (by omega)
              have t5n : decide (0 < k) = false := decide_eq_false hk0
              have HI2 := HI (fun h => hk0 h.1)
              clear HN HI hb0 hk0
              by_cases hlow : n < -4611686018427387903
              · have t6 : decide (n < -4611686018427387903) = true := decide_eq_true hlow
                have h2 := HI2.out
                rw [if_pos hlow] at h2
                have H2 := Lib.hid h2
                clear h2 HI2 hlow
                go_wp2
                go_ret3
                exact ⟨res_eq H2.out.symm, rfl⟩
              · have t6 : decide (n < -4611686018427387903) = false := decide_eq_false hlow
                have h2 := HI2.out
                rw [if_neg hlow, Hj.out] at h2
                have H2 := Lib.hid h2
                clear h2 HI2 hlow
                go_wp2
                go_ret3
                exact ⟨res_eq H2.out.symm, rfl⟩
          · have t4 : ((b : Int) == 0) = false := by rw [beq_eq_false_iff_ne]; omega
            have t4n : (b == 0) = false := by rw [beq_eq_false_iff_ne]; omega
            have HI2 := HI (fun h => hb0 h.2)
            clear HN HI hb0
            by_cases hlow : n < -4611686018427387903
            · have t6 : decide (n < -4611686018427387903) = true := decide_eq_true hlow
              have h2 := HI2.out
              rw [if_pos hlow] at h2
              have H2 := Lib.hid h2
              clear h2 HI2 hlow
              go_wp2
              go_ret3
              exact ⟨res_eq H2.out.symm, rfl⟩
            · have t6 : decide (n < -4611686018427387903) = false := decide_eq_false hlow
              have h2 := HI2.out
              rw [if_neg hlow, Hj.out] at h2
              have H2 := Lib.hid h2
              clear h2 HI2 hlow
              go_wp2
              go_ret3
              exact ⟨res_eq H2.out.symm, rfl⟩
      · have hge : s.size ≤ j := by omega
        have HE : Hid (intL s.data.toList p = (0, 0, 10)) := intL_end hp2 Hr.out (by have := Hjn.out; simp; omega)
        clear hin
        go_wp2
        go_ret3
        exact ⟨res_eq HE.out.symm, rfl⟩
    · obtain rfl : k = 9 := by omega
      have HE : Hid (intL s.data.toList p = (0, 0, 10)) := intL_nine hp2 Hr.out
      clear hlt hk
      go_wp2
      go_ret3
      exact ⟨res_eq HE.out.symm, rfl⟩

set_option maxHeartbeats 1000000 in
theorem any (s : ByteArray) (n : Int) (w : World) (hs : s.size ≤ 140737488351232) :
    Calls Try.prog 55 #[.string s, .int .i64 n] w fun e w' => e = .returned (res (intL s.data.toList n)) ∧ w = w' := by
  by_cases h : n < 0
  · have HE : Hid (intL s.data.toList n = (0, 0, 2)) := by show _ = _; unfold intL; rw [if_pos (.inl h)]
    have t1 : decide (n < 0) = true := decide_eq_true h
    clear h
    go_enter Try.func55, Try.ntmps55
    go_wp2
    go_ret3
    exact ⟨res_eq HE.out.symm, rfl⟩
  · obtain ⟨p, rfl⟩ : ∃ p : Nat, n = p := ⟨n.toNat, by omega⟩
    by_cases hp : p ≤ s.size
    · exact inner s p w hs hp
    · have HE : Hid (intL s.data.toList p = (0, 0, 2)) := by show _ = _; unfold intL; rw [if_pos (.inr (by simp; omega))]
      have t1 : decide ((p : Int) < 0) = false := decide_eq_false h
      have t2 : decide (s.size < p) = true := decide_eq_true (by omega)
      clear h hp
      go_enter Try.func55, Try.ntmps55
      go_wp2
      go_ret3
      exact ⟨res_eq HE.out.symm, rfl⟩

end Go.Proofs.Yteilkigdlkeiaaa.IntW
