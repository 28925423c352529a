/- The encoding of integers as plain functions on numbers and lists of bytes, and its laws. -/
namespace Go.Proofs.Yteilkigdlkeiaaa.Leb
set_option linter.unusedVariables false
set_option linter.unusedSimpArgs false

/-- the number that is encoded for n -/
def zig (n : Int) : Nat := if n < 0 then (-2 * n - 1).toNat else (2 * n).toNat
/-- the integer for which z is encoded -/
def unzig (z : Nat) : Int := if z % 2 = 1 then -((z / 2 : Nat) : Int) - 1 else ((z / 2 : Nat) : Int)
theorem unzig_zig (n : Int) : unzig (zig n) = n := by unfold unzig zig; split <;> split <;> omega
theorem zig_unzig (z : Nat) : zig (unzig z) = z := by unfold unzig zig; split <;> split <;> omega
theorem zig_inj {m n : Int} (h : zig m = zig n) : m = n := by rw [← unzig_zig m, h, unzig_zig]

/-- unsigned LEB128 -/
def leb (z : Nat) : List UInt8 :=
  if h : z < 128 then [UInt8.ofNat z] else UInt8.ofNat (z % 128 + 128) :: leb (z / 128)
  termination_by z
  decreasing_by omega
theorem leb_lt {z : Nat} (h : z < 128) : leb z = [UInt8.ofNat z] := by rw [leb]; simp [h]
theorem leb_ge {z : Nat} (h : ¬ z < 128) : leb z = UInt8.ofNat (z % 128 + 128) :: leb (z / 128) := by rw [leb]; simp [h]
theorem leb_ne (z : Nat) : leb z ≠ [] := by rw [leb]; split <;> simp
theorem leb_pos (z : Nat) : 0 < (leb z).length := List.length_pos_iff.2 (leb_ne z)
theorem leb_len : ∀ (f z : Nat), z < 128 ^ (f + 1) → (leb z).length ≤ f + 1
  | 0, z, h => by rw [leb_lt (by simpa using h)]; simp
  | f + 1, z, h => by
    by_cases hz : z < 128
    · rw [leb_lt hz]; simp
    · rw [leb_ge hz]
      have := leb_len f (z / 128) (by rw [Nat.pow_succ] at h; omega)
      simp; omega

/-- reading: at most f groups; the value and how many bytes; none where it does not end, or has a superfluous zero group -/
def rd : Nat → List UInt8 → Option (Nat × Nat)
  | 0, _ => none
  | _ + 1, [] => none
  | f + 1, b :: t => if b.toNat < 128 then some (b.toNat, 1) else match rd f t with
    | none => none
    | some (z, k) => if z = 0 then none else some (b.toNat - 128 + 128 * z, k + 1)

theorem toNat_ofNat_lt {n : Nat} (h : n < 256) : (UInt8.ofNat n).toNat = n := by simp [UInt8.toNat_ofNat']; omega

/-- what was encoded is read, whatever follows -/
theorem rd_leb (q : List UInt8) : ∀ (f z : Nat), (leb z).length ≤ f → rd f (leb z ++ q) = some (z, (leb z).length)
  | 0, z, h => by have := leb_pos z; omega
  | f + 1, z, h => by
    by_cases hz : z < 128
    · rw [leb_lt hz]; simp [rd, toNat_ofNat_lt (show z < 256 by omega), hz]
    · rw [leb_ge hz] at h ⊢
      have ih := rd_leb q f (z / 128) (by simp at h; omega)
      simp only [List.cons_append, rd, toNat_ofNat_lt (show z % 128 + 128 < 256 by omega), ih, List.length_cons]
      rw [if_neg (by omega), if_neg (by omega)]
      simp; omega

/-- what is read is what was encoded -/
theorem rd_sound : ∀ (f : Nat) (l : List UInt8) (z k : Nat), rd f l = some (z, k) → l.take k = leb z ∧ k ≤ l.length ∧ k ≤ f ∧ k = (leb z).length
  | 0, l, z, k, h => by simp [rd] at h
  | f + 1, [], z, k, h => by simp [rd] at h
  | f + 1, b :: t, z, k, h => by
    simp only [rd] at h
    by_cases hb : b.toNat < 128
    · rw [if_pos hb] at h
      simp only [Option.some.injEq, Prod.mk.injEq] at h
      obtain ⟨rfl, rfl⟩ := h
      rw [leb_lt hb]
      simp
    · rw [if_neg hb] at h
      cases hr : rd f t with
      | none => rw [hr] at h; simp at h
      | some p =>
        obtain ⟨z', k'⟩ := p
        rw [hr] at h
        simp only at h
        by_cases hz : z' = 0
        · rw [if_pos hz] at h; simp at h
        · rw [if_neg hz] at h
          simp only [Option.some.injEq, Prod.mk.injEq] at h
          obtain ⟨rfl, rfl⟩ := h
          obtain ⟨h1, h2, h3, h4⟩ := rd_sound f t z' k' hr
          have hlt : b.toNat < 256 := b.toNat_lt
          have e1 : (b.toNat - 128 + 128 * z') % 128 + 128 = b.toNat := by omega
          have e2 : (b.toNat - 128 + 128 * z') / 128 = z' := by omega
          rw [leb_ge (by omega), e1, e2]
          refine ⟨?_, by simp; omega, by omega, by simp [h4]⟩
          rw [List.take_succ_cons, h1]
          simp

theorem rd_bound : ∀ (f : Nat) (l : List UInt8) (z k : Nat), rd f l = some (z, k) → z < 128 ^ f
  | 0, l, z, k, h => by simp [rd] at h
  | f + 1, [], z, k, h => by simp [rd] at h
  | f + 1, b :: t, z, k, h => by
    simp only [rd] at h
    have hp : 0 < 128 ^ f := Nat.pow_pos (by decide)
    by_cases hb : b.toNat < 128
    · rw [if_pos hb] at h
      simp only [Option.some.injEq, Prod.mk.injEq] at h
      obtain ⟨rfl, rfl⟩ := h
      rw [Nat.pow_succ]; omega
    · rw [if_neg hb] at h
      cases hr : rd f t with
      | none => rw [hr] at h; simp at h
      | some p =>
        obtain ⟨z', k'⟩ := p
        rw [hr] at h
        simp only at h
        by_cases hz : z' = 0
        · rw [if_pos hz] at h; simp at h
        · rw [if_neg hz] at h
          simp only [Option.some.injEq, Prod.mk.injEq] at h
          obtain ⟨rfl, rfl⟩ := h
          have := rd_bound f t z' k' hr
          have hlt : b.toNat < 256 := b.toNat_lt
          rw [Nat.pow_succ]; omega

/-- the bound on integers -/
def Max : Int := 4611686018427387903
def InRange (n : Int) : Prop := -4611686018427387903 ≤ n ∧ n ≤ 4611686018427387903
instance (n : Int) : Decidable (InRange n) := inferInstanceAs (Decidable (_ ∧ _))
theorem pow9 : (128 : Nat) ^ (8 + 1) = 9223372036854775808 := by decide
theorem zig_lt {n : Int} (h : InRange n) : zig n < 9223372036854775808 := by unfold InRange at h; unfold zig; split <;> omega
theorem zig_len {n : Int} (h : InRange n) : (leb (zig n)).length ≤ 9 := leb_len 8 _ (by rw [pow9]; exact zig_lt h)

/-- the encoding of an integer, with its error -/
def putL (n : Int) : List UInt8 × Int := if InRange n then (leb (zig n), 0) else ([], 10)
/-- the integer whose encoding a list begins with, and its length -/
def dec (l : List UInt8) : Option (Int × Nat) := match rd 9 l with
  | none => none
  | some (z, k) => if InRange (unzig z) then some (unzig z, k) else none
/-- Int: value, end, error -/
def intL (l : List UInt8) (at_ : Int) : Int × Int × Int :=
  if at_ < 0 ∨ (l.length : Int) < at_ then (0, 0, 2) else match dec (l.drop at_.toNat) with
    | none => (0, 0, 10)
    | some (n, k) => (n, at_ + k, 0)

theorem dec_leb {n : Int} (h : InRange n) (q : List UInt8) : dec (leb (zig n) ++ q) = some (n, (leb (zig n)).length) := by
  unfold dec
  rw [rd_leb q 9 _ (zig_len h)]
  simp only [unzig_zig]
  rw [if_pos h]
theorem dec_sound {l : List UInt8} {n : Int} {k : Nat} (h : dec l = some (n, k)) : InRange n ∧ l.take k = leb (zig n) ∧ k = (leb (zig n)).length ∧ k ≤ l.length := by
  unfold dec at h
  cases hr : rd 9 l with
  | none => rw [hr] at h; simp at h
  | some p =>
    obtain ⟨z, k'⟩ := p
    rw [hr] at h
    simp only at h
    by_cases hz : InRange (unzig z)
    · rw [if_pos hz] at h
      simp only [Option.some.injEq, Prod.mk.injEq] at h
      obtain ⟨rfl, rfl⟩ := h
      obtain ⟨h1, h2, _, h4⟩ := rd_sound 9 l z k' hr
      rw [zig_unzig]
      exact ⟨hz, h1, h4, h2⟩
    · rw [if_neg hz] at h; simp at h

/-- what is left to be read after i groups, whose value is acc -/
def cont (i acc : Nat) : Option (Nat × Nat) → Option (Nat × Nat)
  | none => none
  | some (z, k) => if 0 < i ∧ z = 0 then none else some (acc + 128 ^ i * z, i + k)
theorem cont_zero (r : Option (Nat × Nat)) : cont 0 0 r = r := by
  cases r with
  | none => rfl
  | some p => simp [cont]
theorem cont_more (i acc f : Nat) (b : UInt8) (t : List UInt8) (hb : ¬ b.toNat < 128) : cont i acc (rd (f + 1) (b :: t)) = cont (i + 1) (acc + 128 ^ i * (b.toNat - 128)) (rd f t) := by
  simp only [rd]
  rw [if_neg hb]
  cases hr : rd f t with
  | none => rfl
  | some p =>
    obtain ⟨z, k⟩ := p
    simp only [cont]
    by_cases hz : z = 0
    · rw [if_pos hz, if_pos ⟨by omega, hz⟩]
    · rw [if_neg hz, if_neg (by omega)]
      simp only
      rw [if_neg (by omega)]
      have h1 : acc + 128 ^ i * (b.toNat - 128 + 128 * z) = acc + 128 ^ i * (b.toNat - 128) + 128 ^ (i + 1) * z := by
        rw [Nat.pow_succ, Nat.mul_add, Nat.mul_assoc]; omega
      have h2 : i + (k + 1) = i + 1 + k := by omega
      rw [h1, h2]
theorem cont_last (i acc f : Nat) (b : UInt8) (t : List UInt8) (hb : b.toNat < 128) : cont i acc (rd (f + 1) (b :: t)) = if 0 < i ∧ b.toNat = 0 then none else some (acc + 128 ^ i * b.toNat, i + 1) := by
  simp only [rd]; rw [if_pos hb]; rfl

/-! ### what a reader's loop comes to, round by round -/
theorem intL_in {l : List UInt8} {p : Nat} (hp : p ≤ l.length) : intL l p = match dec (l.drop p) with
    | none => (0, 0, 10)
    | some (n, k) => (n, p + k, 0) := by
  unfold intL; rw [if_neg (by omega), Int.toNat_natCast]
theorem intL_none {l : List UInt8} {p : Nat} (hp : p ≤ l.length) (h : rd 9 (l.drop p) = none) : intL l p = (0, 0, 10) := by
  rw [intL_in hp]; unfold dec; rw [h]
theorem intL_end {l : List UInt8} {p k acc : Nat} (hp : p ≤ l.length) (h : rd 9 (l.drop p) = cont k acc (rd (9 - k) (l.drop (p + k)))) (hl : l.length ≤ p + k) : intL l p = (0, 0, 10) := by
  refine intL_none hp ?_
  rw [h, List.drop_eq_nil_of_le hl]
  cases 9 - k <;> rfl
theorem intL_nine {l : List UInt8} {p acc : Nat} (hp : p ≤ l.length) (h : rd 9 (l.drop p) = cont 9 acc (rd (9 - 9) (l.drop (p + 9)))) : intL l p = (0, 0, 10) := intL_none hp (by rw [h]; rfl)
theorem rd_more {l : List UInt8} {p k acc : Nat} (h : rd 9 (l.drop p) = cont k acc (rd (9 - k) (l.drop (p + k)))) (hk : k < 9) (hlt : p + k < l.length) (hb : ¬ (l[p + k]).toNat < 128) :
    rd 9 (l.drop p) = cont (k + 1) (acc + 128 ^ k * ((l[p + k]).toNat - 128)) (rd (9 - (k + 1)) (l.drop (p + (k + 1)))) := by
  rw [h, List.drop_eq_getElem_cons hlt, show 9 - k = (9 - (k + 1)) + 1 by omega, cont_more _ _ _ _ _ hb]
  rfl
theorem rd_last {l : List UInt8} {p k acc : Nat} (h : rd 9 (l.drop p) = cont k acc (rd (9 - k) (l.drop (p + k)))) (hk : k < 9) (hlt : p + k < l.length) (hb : (l[p + k]).toNat < 128) :
    rd 9 (l.drop p) = if 0 < k ∧ (l[p + k]).toNat = 0 then none else some (acc + 128 ^ k * (l[p + k]).toNat, k + 1) := by
  rw [h, List.drop_eq_getElem_cons hlt, show 9 - k = (9 - (k + 1)) + 1 by omega, cont_last _ _ _ _ _ hb]
theorem intL_some {l : List UInt8} {p k z : Nat} (hp : p ≤ l.length) (h : rd 9 (l.drop p) = some (z, k)) : intL l p = if unzig z < -4611686018427387903 then (0, 0, 10) else (unzig z, (p : Int) + (k : Nat), 0) := by
  have hz := rd_bound 9 _ _ _ h
  rw [pow9] at hz
  rw [intL_in hp]; unfold dec; rw [h]
  simp only
  by_cases hn : unzig z < -4611686018427387903
  · rw [if_pos hn, if_neg (by unfold InRange; omega)]
  · have : InRange (unzig z) := by unfold InRange; unfold unzig at hn ⊢; split at hn <;> omega
    rw [if_neg hn, if_pos this]

/-- a reader that compares with the encoding reads the same -/
theorem ref_ends {l : List UInt8} {p k z : Nat} {c : Prop} [Decidable c] {n : Int} (hp : p ≤ l.length) (hk : k < 9) (hn : unzig z = n) (h : rd 9 (l.drop p) = if c then none else some (z, k + 1)) :
    ((putL n).2 ≠ 0 → intL l p = (0, 0, 10)) ∧ ((putL n).2 = 0 → (putL n).1 ≠ (l.drop p).take (k + 1) → intL l p = (0, 0, 10)) ∧ ((putL n).2 = 0 → (putL n).1 = (l.drop p).take (k + 1) → intL l p = (n, (p : Int) + (k + 1 : Nat), 0)) := by
  subst hn
  by_cases hc : c
  · rw [if_pos hc] at h
    refine ⟨fun _ => intL_none hp h, fun _ _ => intL_none hp h, fun h0 he => ?_⟩
    exfalso
    by_cases hr : InRange (unzig z)
    · rw [putL, if_pos hr, zig_unzig] at he
      have hl : (leb z).length ≤ 9 := by rw [← zig_unzig z]; exact zig_len hr
      have := rd_leb ((l.drop p).drop (k + 1)) 9 z hl
      rw [show leb z = (l.drop p).take (k + 1) from he, List.take_append_drop, h] at this
      cases this
    · rw [putL, if_neg hr] at h0; simp at h0
  · rw [if_neg hc] at h
    have h2 := intL_some hp h
    have hz := rd_bound 9 _ _ _ h
    rw [pow9] at hz
    obtain ⟨hs, _, _, _⟩ := rd_sound 9 _ _ _ h
    by_cases hr : InRange (unzig z)
    · have h3 : ¬ unzig z < -4611686018427387903 := by unfold InRange at hr; omega
      rw [if_neg h3] at h2
      refine ⟨fun h0 => ?_, fun _ he => ?_, fun _ _ => h2⟩
      · rw [putL, if_pos hr] at h0; simp at h0
      · rw [putL, if_pos hr, zig_unzig] at he; exact absurd hs.symm he
    · have h3 : unzig z < -4611686018427387903 := by
        unfold InRange at hr
        unfold unzig at hr ⊢
        split at hr <;> omega
      rw [if_pos h3] at h2
      refine ⟨fun _ => h2, fun _ _ => h2, fun h0 _ => ?_⟩
      rw [putL, if_neg hr] at h0; simp at h0

/-! ### strings -/
/-- the encoding of a string, with its error -/
def putS (l : List UInt8) : List UInt8 × Int := if l.length ≤ 65536 then (leb (2 * l.length) ++ l, 0) else ([], 10)
/-- String: value, end, error -/
def strL (l : List UInt8) (at_ : Int) : List UInt8 × Int × Int :=
  match intL l at_ with
  | (n, next, e) => if e ≠ 0 then ([], 0, e) else if n < 0 ∨ 65536 < n ∨ (l.length : Int) - next < n then ([], 0, 10) else ((l.drop next.toNat).take n.toNat, next + n, 0)
theorem zig_nat (n : Nat) : zig (n : Int) = 2 * n := by unfold zig; rw [if_neg (by omega)]; omega

end Go.Proofs.Yteilkigdlkeiaaa.Leb
