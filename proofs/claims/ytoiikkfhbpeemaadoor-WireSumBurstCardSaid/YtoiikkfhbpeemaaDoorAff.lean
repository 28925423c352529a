/- The checksum of the exclusive or of three strings, and a row of bytes that the call makes. -/
import Derived.Test.YtoiikkfhbpeemaaDoorCrcDefs
import Derived.Test.YtoiikkfhbpeemaaDoorStr
import Derived.Deep.OwnRows
import Derived.Laws.BytesArg
import Derived.Below
namespace Go.Proofs.YtoiikkfhbpeemaaDoor.Aff
set_option linter.unusedVariables false
set_option linter.unusedSimpArgs false
open Go Go.RowKit Go.Proofs.YtoiikkfhbpeemaaDoor.Crc Go.Proofs.YtoiikkfhbpeemaaDoor.PutInt

/-- linear: three registers, three bytes -/
theorem byte_xor3 (r s t a b c : Nat) : byte (r ^^^ s ^^^ t) (a ^^^ b ^^^ c) = byte r a ^^^ byte s b ^^^ byte t c := by
  unfold byte
  rw [← steps_xor, ← steps_xor]
  congr 1
  ac_rfl
theorem byte_xor (r s a b : Nat) : byte (r ^^^ s) (a ^^^ b) = byte r a ^^^ byte s b := by
  unfold byte
  rw [← steps_xor]
  congr 1
  ac_rfl

theorem reg_xor3 : ∀ (n : Nat) (A B C X : List UInt8) (r s t : Nat), A.length = n → B.length = n → C.length = n → X.length = n →
    (∀ j, j < n → (X.getD j 0).toNat = (A.getD j 0).toNat ^^^ (B.getD j 0).toNat ^^^ (C.getD j 0).toNat) →
    reg (r ^^^ s ^^^ t) X = reg r A ^^^ reg s B ^^^ reg t C
  | 0, A, B, C, X, r, s, t, hA, hB, hC, hX, h => by
    obtain rfl := List.length_eq_zero_iff.1 hA
    obtain rfl := List.length_eq_zero_iff.1 hB
    obtain rfl := List.length_eq_zero_iff.1 hC
    obtain rfl := List.length_eq_zero_iff.1 hX
    rfl
  | n + 1, a :: A, b :: B, c :: C, x :: X, r, s, t, hA, hB, hC, hX, h => by
    have h0 := h 0 (by omega)
    simp only [List.getD_cons_zero] at h0
    have ih := reg_xor3 n A B C X (byte r a.toNat) (byte s b.toNat) (byte t c.toNat) (by simpa using hA) (by simpa using hB) (by simpa using hC) (by simpa using hX) (fun j hj => by
      have := h (j + 1) (by omega)
      simpa only [List.getD_cons_succ] using this)
    show reg (byte (r ^^^ s ^^^ t) x.toNat) X = _
    rw [h0, byte_xor3]
    exact ih

theorem ones_sub (a : Nat) (h : a < 4294967296) : 4294967295 - a = 4294967295 ^^^ a := by
  have h1 : (BitVec.ofNat 32 a ^^^ BitVec.allOnes 32).toNat = a ^^^ 4294967295 := by
    rw [BitVec.toNat_xor, BitVec.toNat_allOnes, BitVec.toNat_ofNat, Nat.mod_eq_of_lt (by simpa using h)]
  have h2 : BitVec.ofNat 32 a ^^^ BitVec.allOnes 32 = ~~~ (BitVec.ofNat 32 a) := by
    rw [BitVec.not_def, BitVec.xor_comm]
  rw [Nat.xor_comm, ← h1, h2, BitVec.toNat_not, BitVec.toNat_ofNat, Nat.mod_eq_of_lt (by simpa using h)]

theorem sum_lt (l : List UInt8) : sum l < 4294967296 := by unfold sum; omega

theorem sum_xor3 (n : Nat) (A B C X : List UInt8) (hA : A.length = n) (hB : B.length = n) (hC : C.length = n) (hX : X.length = n)
    (h : ∀ j, j < n → (X.getD j 0).toNat = (A.getD j 0).toNat ^^^ (B.getD j 0).toNat ^^^ (C.getD j 0).toNat) :
    sum X = sum A ^^^ sum B ^^^ sum C := by
  have e := reg_xor3 n A B C X 4294967295 4294967295 4294967295 hA hB hC hX h
  rw [show (4294967295 ^^^ 4294967295 ^^^ 4294967295 : Nat) = 4294967295 by decide] at e
  have hl : ∀ l : List UInt8, reg 4294967295 l < 4294967296 := fun l => reg_lt l (by decide)
  unfold sum
  rw [ones_sub _ (hl A), ones_sub _ (hl B), ones_sub _ (hl C), ones_sub _ (hl X), e]
  have e3 : ∀ o x y z : Nat, o ^^^ x ^^^ (o ^^^ y) ^^^ (o ^^^ z) = (o ^^^ o) ^^^ (o ^^^ (x ^^^ y ^^^ z)) := fun o x y z => by ac_rfl
  rw [e3, Nat.xor_self, Nat.zero_xor]

theorem conv_row (b n cap : Nat) (w : World) (X : Nat → Nat) (h : ∀ i, i < n → w.cell? ⟨b, i, none⟩ = some (.int .u8 (X i : Nat))) :
    (convert 38 9 (.slice (some ⟨b, 0, none⟩) n cap)).run Tryd.prog w = .ok (.string (bs ((List.range n).map fun i => UInt8.ofNat (X i)))) w := by
  have := run_convert_bytes_arg (P := Tryd.prog) w 38 5 Tryd.underlying38 Tryd.underlying5 b 0 n cap ((List.range n).map fun i => (X i : Int)) (by simp) (fun i hi => by
      rw [Nat.zero_add, h i hi]
      simp [List.getD, hi]) 9 Tryd.underlying9
  rw [this, ← bs_eq (strOfNums _), strOfNums_data, List.map_map]
  congr 4

/-- what the walk asks of 'a[i] ^ b[i] ^ c[i]' -/
theorem xor_at (a b c : UInt8) : ∃ m x : Nat, bits BinOp.xor IntKind.u8 (a.toNat : Int) (b.toNat : Int) = (m : Int) ∧ bits BinOp.xor IntKind.u8 (m : Int) (c.toNat : Int) = (x : Int) ∧ x < 256 ∧ x = a.toNat ^^^ b.toNat ^^^ c.toNat := by
  have h1 : a.toNat ^^^ b.toNat < 256 := Nat.xor_lt_two_pow (n := 8) a.toNat_lt b.toNat_lt
  exact ⟨_, _, u8_xor_nat _ _ a.toNat_lt b.toNat_lt, u8_xor_nat _ _ h1 c.toNat_lt, Nat.xor_lt_two_pow (n := 8) h1 c.toNat_lt, rfl⟩

theorem i64_xor_nat (a b : Nat) (ha : a < 4294967296) (hb : b < 4294967296) : bits .xor .i64 (a : Int) (b : Int) = ((a ^^^ b : Nat) : Int) := by
  have hx : a ^^^ b < 2 ^ 32 := Nat.xor_lt_two_pow (by omega) (by omega)
  show IntKind.i64.wrap ((BitVec.ofInt 64 (a : Int) ^^^ BitVec.ofInt 64 (b : Int)).toNat : Int) = _
  rw [BitVec.toNat_xor, ofInt_u64 a (by omega), ofInt_u64 b (by omega), IntKind.wrap_i64]
  omega

/-- what the walk asks of the last test -/
theorem xor_sums (x y z : Nat) (hx : x < 4294967296) (hy : y < 4294967296) (hz : z < 4294967296) : ∃ m t : Nat, bits BinOp.xor IntKind.i64 (x : Int) (y : Int) = (m : Int) ∧ bits BinOp.xor IntKind.i64 (m : Int) (z : Int) = (t : Int) ∧ t = x ^^^ y ^^^ z :=
  ⟨_, _, i64_xor_nat _ _ hx hy, i64_xor_nat _ _ (Crc.xor_lt hx hy) hz, rfl⟩

theorem cut_data (s : ByteArray) (n : Nat) : (s.extract 0 n).data.toList = s.data.toList.take n := by
  rw [Lib.extract_data, List.drop_zero, Nat.sub_zero]

end Go.Proofs.YtoiikkfhbpeemaaDoor.Aff
