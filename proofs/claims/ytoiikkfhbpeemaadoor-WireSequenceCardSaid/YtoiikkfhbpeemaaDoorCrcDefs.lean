/- The checksum as plain functions on natural numbers. -/
namespace Go.Proofs.YtoiikkfhbpeemaaDoor.Crc
set_option linter.unusedVariables false
set_option linter.unusedSimpArgs false

/-- one bit: the register shifted right, and the polynomial taken in where a 1 was shifted out -/
def step (r : Nat) : Nat := if r % 2 = 1 then r / 2 ^^^ 2197175160 else r / 2
def steps : Nat → Nat → Nat
  | 0, r => r
  | k + 1, r => steps k (step r)
/-- the register after one byte -/
def byte (r b : Nat) : Nat := steps 8 (r ^^^ b)
/-- the register after a list of bytes -/
def reg (r : Nat) (l : List UInt8) : Nat := l.foldl (fun r b => byte r b.toNat) r
/-- the checksum -/
def sum (l : List UInt8) : Nat := 4294967295 - reg 4294967295 l

/-- the table of 16 numbers -/
def tab : List Nat := [0, 274646895, 549293790, 820201905, 1098587580, 1361435347, 1640403810, 1905808397, 2197175160, 2460548119, 2722870694, 2987750089, 3280807620, 3553878443, 3811616794, 4084100981]
def half (r : Nat) : Nat := r / 16 ^^^ tab.getD (r % 16) 0
def byte2 (r b : Nat) : Nat := half (half (r ^^^ b))

theorem tab_lt (j : Nat) (h : j < 16) : tab.getD j 0 < 4294967296 := by
  have : ∀ j : Fin 16, tab.getD j.1 0 < 4294967296 := by decide
  exact this ⟨j, h⟩
theorem xor_lt {a b : Nat} (ha : a < 4294967296) (hb : b < 4294967296) : a ^^^ b < 4294967296 := Nat.xor_lt_two_pow (n := 32) ha hb
theorem half_lt {r : Nat} (h : r < 4294967296) : half r < 4294967296 := xor_lt (by omega) (tab_lt _ (by omega))
theorem step_lt {r : Nat} (h : r < 4294967296) : step r < 4294967296 := by
  unfold step; split
  · exact xor_lt (by omega) (by decide)
  · omega
theorem steps_lt : ∀ (k : Nat) {r : Nat}, r < 4294967296 → steps k r < 4294967296
  | 0, _, h => h
  | k + 1, _, h => steps_lt k (step_lt h)

/-- the step is linear -/
theorem step_xor (a b : Nat) : step (a ^^^ b) = step a ^^^ step b := by
  have h2 : (a ^^^ b) / 2 = a / 2 ^^^ b / 2 := by
    have := Nat.xor_div_two_pow (a := a) (b := b) (n := 1)
    simpa using this
  have h3 : ∀ x y : Nat, x ^^^ 2197175160 ^^^ (y ^^^ 2197175160) = x ^^^ y := fun x y => by
    have : x ^^^ 2197175160 ^^^ (y ^^^ 2197175160) = (x ^^^ y) ^^^ (2197175160 ^^^ 2197175160) := by ac_rfl
    rw [this, Nat.xor_self, Nat.xor_zero]
  unfold step
  rw [h2]
  by_cases ha : a % 2 = 1 <;> by_cases hb : b % 2 = 1
  · have hc : ¬ (a ^^^ b) % 2 = 1 := by simp [ha, hb]
    rw [if_pos ha, if_pos hb, if_neg hc, h3]
  · have hc : (a ^^^ b) % 2 = 1 := by simp [ha, hb]
    rw [if_pos ha, if_neg hb, if_pos hc]; ac_rfl
  · have hc : (a ^^^ b) % 2 = 1 := by simp [ha, hb]
    rw [if_neg ha, if_pos hb, if_pos hc]; ac_rfl
  · have hc : ¬ (a ^^^ b) % 2 = 1 := by simp [ha, hb]
    rw [if_neg ha, if_neg hb, if_neg hc]

theorem steps_xor : ∀ (k a b : Nat), steps k (a ^^^ b) = steps k a ^^^ steps k b
  | 0, _, _ => rfl
  | k + 1, a, b => by simp only [steps]; rw [step_xor, steps_xor k]

theorem steps_add : ∀ (j k r : Nat), steps (j + k) r = steps k (steps j r)
  | 0, k, r => by simp [steps]
  | j + 1, k, r => by rw [Nat.add_right_comm]; simp only [steps]; exact steps_add j k _

theorem step_even (r : Nat) : step (2 * r) = r := by unfold step; rw [if_neg (by omega)]; omega
theorem steps_pow : ∀ (k r : Nat), steps k (2 ^ k * r) = r
  | 0, r => by simp [steps]
  | k + 1, r => by
    simp only [steps]
    rw [show 2 ^ (k + 1) * r = 2 * (2 ^ k * r) by rw [Nat.pow_succ]; ac_rfl, step_even]
    exact steps_pow k r

theorem tab_ok : ∀ j : Fin 16, steps 4 j.1 = tab.getD j.1 0 := by decide
/-- four bits at once, by the table -/
theorem half_eq (r : Nat) : half r = steps 4 r := by
  have e : r = 2 ^ 4 * (r / 16) ^^^ r % 16 := by
    have := Nat.two_pow_add_eq_or_of_lt (i := 4) (b := r % 16) (by omega) (r / 16)
    have hx : 2 ^ 4 * (r / 16) ^^^ r % 16 = 2 ^ 4 * (r / 16) ||| r % 16 := by
      apply Nat.eq_of_testBit_eq
      intro i
      rw [Nat.testBit_xor, Nat.testBit_or]
      by_cases hi : i < 4
      · rw [Nat.testBit_two_pow_mul]; simp [show ¬ 4 ≤ i by omega]
      · rw [Nat.testBit_lt_two_pow (x := r % 16) (i := i) (by
          have : 2 ^ 4 ≤ 2 ^ i := Nat.pow_le_pow_right (by decide) (by omega)
          omega)]
        simp
    rw [hx, ← this]; omega
  conv => rhs; rw [e]
  rw [steps_xor, steps_pow, half]
  rw [tab_ok ⟨r % 16, by omega⟩]
theorem byte2_eq (r b : Nat) : byte2 r b = byte r b := by
  unfold byte2 byte; rw [half_eq, half_eq, ← steps_add]

theorem byte_lt {r b : Nat} (h : r < 4294967296) (hb : b < 256) : byte r b < 4294967296 := steps_lt 8 (xor_lt h (by omega))
theorem reg_lt : ∀ (l : List UInt8) {r : Nat}, r < 4294967296 → reg r l < 4294967296
  | [], _, h => h
  | b :: l, _, h => reg_lt l (byte_lt h b.toNat_lt)
theorem reg_snoc (r : Nat) (l : List UInt8) (b : UInt8) : reg r (l ++ [b]) = byte (reg r l) b.toNat := by simp [reg]
theorem reg_append (r : Nat) (l m : List UInt8) : reg r (l ++ m) = reg (reg r l) m := by simp [reg]

end Go.Proofs.YtoiikkfhbpeemaaDoor.Crc
