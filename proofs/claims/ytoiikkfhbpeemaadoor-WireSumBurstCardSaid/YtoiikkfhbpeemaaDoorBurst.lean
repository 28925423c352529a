/- A burst of changed bits, as plain lists of bytes; and a row of bytes that a conversion made. -/
import Derived.Test.YtoiikkfhbpeemaaDoorCrcDefs
import Derived.Test.YtoiikkfhbpeemaaDoorAff
import Derived.Lib.ConvBytes
namespace Go.Proofs.YtoiikkfhbpeemaaDoor.Burst
set_option linter.unusedVariables false
set_option linter.unusedSimpArgs false
open Go Go.RowKit Go.Proofs.YtoiikkfhbpeemaaDoor.Crc Go.Proofs.YtoiikkfhbpeemaaDoor.PutInt

/-- the bits of a list of bytes as one number -/
def NN : List UInt8 → Nat
  | [] => 0
  | d :: D => d.toNat ^^^ 2 ^ 8 * NN D

theorem mul_xor (k a b : Nat) : 2 ^ k * (a ^^^ b) = 2 ^ k * a ^^^ 2 ^ k * b := by
  apply Nat.eq_of_testBit_eq
  intro i
  simp only [Nat.testBit_xor, Nat.testBit_two_pow_mul]
  by_cases h : k ≤ i <;> simp [h]

theorem reg_NN : ∀ (D : List UInt8) (r : Nat), reg r D = steps (8 * D.length) (r ^^^ NN D)
  | [], r => by simp [reg, NN, steps]
  | d :: D, r => by
    show reg (byte r d.toNat) D = _
    rw [reg_NN D, NN, List.length_cons, show 8 * (D.length + 1) = 8 + 8 * D.length by omega, steps_add, ← Nat.xor_assoc, steps_xor 8 _ (2 ^ 8 * NN D), steps_pow]
    rfl

theorem step_zero {r : Nat} (h : r < 4294967296) (hs : Crc.step r = 0) : r = 0 := by
  unfold Crc.step at hs
  split at hs
  · have : r / 2 = 2197175160 := by
      have h2 : r / 2 ^^^ 2197175160 ^^^ 2197175160 = 0 ^^^ 2197175160 := by rw [hs]
      rwa [Nat.xor_assoc, Nat.xor_self, Nat.xor_zero, Nat.zero_xor] at h2
    omega
  · omega
theorem steps_zero : ∀ (k : Nat) {r : Nat}, r < 4294967296 → steps k r = 0 → r = 0
  | 0, _, _, h => h
  | k + 1, r, hr, h => step_zero hr (steps_zero k (step_lt hr) h)

theorem NN_set : ∀ (x : List UInt8) (j b : Nat) (v : UInt8), j < x.length → v.toNat = (x.getD j 0).toNat ^^^ 2 ^ b → NN (x.set j v) = NN x ^^^ 2 ^ (8 * j + b)
  | d :: D, 0, b, v, _, h => by
    simp only [List.getD_cons_zero] at h
    simp only [List.set_cons_zero, NN, h, Nat.mul_zero, Nat.zero_add]
    ac_rfl
  | d :: D, j + 1, b, v, hj, h => by
    simp only [List.getD_cons_succ] at h
    simp only [List.set_cons_succ, NN]
    rw [NN_set D j b v (by simpa using hj) h, mul_xor, ← Nat.pow_add, Nat.xor_assoc]
    congr 2
    congr 1
    omega

/-- the changed string's sum is another one just where a bit was changed -/
theorem sum_ne {A X : List UInt8} {f M i : Nat} (hl : X.length = A.length) (hN : NN X = NN A ^^^ 2 ^ f * M) (hM : M < 2 ^ i) (hi : i ≤ 32) (hf : f ≤ 8 * A.length) : (sum X = sum A) ↔ M = 0 := by
  have hM2 : M < 4294967296 := Nat.lt_of_lt_of_le hM (Nat.pow_le_pow_right (by decide) hi)
  have e : reg 4294967295 X = reg 4294967295 A ^^^ steps (8 * A.length - f) M := by
    rw [reg_NN, reg_NN, hl, hN, ← Nat.xor_assoc, steps_xor]
    congr 1
    conv => lhs; rw [show 8 * A.length = f + (8 * A.length - f) by omega]
    rw [steps_add, steps_pow]
  have h1 := reg_lt A (r := 4294967295) (by decide)
  have h2 := reg_lt X (r := 4294967295) (by decide)
  have h3 : sum X = sum A ↔ reg 4294967295 X = reg 4294967295 A := by unfold sum; omega
  rw [h3, e]
  constructor
  · intro h
    have : steps (8 * A.length - f) M = 0 := by
      have h4 : reg 4294967295 A ^^^ (reg 4294967295 A ^^^ steps (8 * A.length - f) M) = reg 4294967295 A ^^^ reg 4294967295 A := by rw [h]
      rwa [← Nat.xor_assoc, Nat.xor_self, Nat.zero_xor] at h4
    exact steps_zero _ hM2 this
  · rintro rfl
    have : ∀ k, steps k 0 = 0 := fun k => by
      induction k with
      | zero => rfl
      | succ k ih => exact ih
    rw [this, Nat.xor_zero]

/-- one more changed bit -/
theorem more {A X : List UInt8} {f M i : Nat} (hN : NN X = NN A ^^^ 2 ^ f * M) (hM : M < 2 ^ i) : NN X ^^^ 2 ^ (f + i) = NN A ^^^ 2 ^ f * (M ^^^ 2 ^ i) ∧ M ^^^ 2 ^ i < 2 ^ (i + 1) ∧ M ^^^ 2 ^ i ≠ 0 := by
  refine ⟨?_, Nat.xor_lt_two_pow (Nat.lt_of_lt_of_le hM (Nat.pow_le_pow_right (by decide) (by omega))) (Nat.pow_lt_pow_right (by decide) (by omega)), fun h => ?_⟩
  · rw [hN, mul_xor, ← Nat.pow_add, Nat.xor_assoc]
  · have : M ^^^ 2 ^ i ^^^ 2 ^ i = 0 ^^^ 2 ^ i := by rw [h]
    rw [Nat.xor_assoc, Nat.xor_self, Nat.xor_zero, Nat.zero_xor] at this
    omega

/-- a row of bytes -/
def Row (w : World) (b : Nat) (x : List UInt8) : Prop := ∃ (c : Array Value) (t : TypeId) (p q : Nat), w.heap[b]? = some (.cells c t (p, q)) ∧ x.length ≤ p ∧ ∀ i, i < x.length → c[i]? = some (.int .u8 (x.getD i 0).toNat)

theorem Row.cell {w : World} {b : Nat} {x : List UInt8} (h : Row w b x) {i : Nat} (hi : i < x.length) : w.cell? ⟨b, i, none⟩ = some (.int .u8 (x.getD i 0).toNat) := by
  obtain ⟨c, t, p, q, hb, _, hc⟩ := h
  simp [World.cell?, hb, hc i hi]
theorem Row.frozen {w : World} {b : Nat} {x : List UInt8} (h : Row w b x) {i : Nat} (hi : i < x.length) : w.frozen? ⟨b, i, none⟩ = false := by
  obtain ⟨c, t, p, q, hb, hp, hc⟩ := h
  simp only [World.frozen?, hb]
  simp
  omega
theorem Row.drew {w : World} {b : Nat} {x : List UInt8} (h : Row w b x) : Row w.drew b x := h
theorem Row.set {w : World} {b : Nat} {x : List UInt8} (h : Row w b x) (i : Nat) (v : UInt8) : Row (w.setCell ⟨b, i, none⟩ (.int .u8 v.toNat)) b (x.set i v) := by
  obtain ⟨c, t, p, q, hb, hp, hc⟩ := h
  refine ⟨c.setIfInBounds i (.int .u8 v.toNat), t, p, q, ?_, by simpa using hp, fun j hj => ?_⟩
  · simp [World.setCell, Array.getElem?_modify, hb]
  · rw [List.length_set] at hj
    have hcj := hc j hj
    have hjs : j < c.size := (Array.getElem?_eq_some_iff.1 hcj).1
    rw [Array.getElem?_setIfInBounds]
    by_cases e : i = j
    · subst e
      rw [if_pos rfl, if_pos hjs]
      simp [List.getD_eq_getElem?_getD, hj]
    · rw [if_neg e, hcj]
      simp [List.getD_eq_getElem?_getD, List.getElem?_set, e]
theorem Row.born (w : World) (e : TypeId) (s : ByteArray) : Row (Lib.bytesWorld w e s) w.heap.size s.data.toList := by
  refine ⟨_, _, _, _, Lib.bytesWorld_at_new w e s, ?_, fun i hi => ?_⟩
  · simp [Lib.bytesCells]
  · have hi2 : i < s.size := by simpa using hi
    have := Lib.bytesWorld_cell w e s i hi2
    simpa [World.cell?, Lib.bytesWorld_at_new] using this
theorem born_below (w : World) (e : TypeId) (s : ByteArray) : Below w.heap.size w (Lib.bytesWorld w e s) :=
  ⟨rfl, rfl, rfl, by rw [Lib.bytesWorld_size]; omega, fun k hk => Lib.bytesWorld_at_old w e s k hk⟩

theorem conv_list (b cap : Nat) (w : World) (x : List UInt8) (h : Row w b x) :
    (convert 38 9 (.slice (some ⟨b, 0, none⟩) x.length cap)).run Tryd.prog w = .ok (.string (bs x)) w := by
  have := Aff.conv_row b x.length cap w (fun i => (x.getD i 0).toNat) (fun i hi => h.cell hi)
  rw [this]
  congr 2
  congr 1
  apply List.ext_getElem
  · simp
  · intro i h1 h2
    simp [List.getD_eq_getElem?_getD, h2]

end Go.Proofs.YtoiikkfhbpeemaaDoor.Burst
