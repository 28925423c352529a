/- More laws of the encoding, for the statements about the reader. -/
import Derived.Test.YteilkigdlkeiaaaG4
namespace Go.Proofs.Yteilkigdlkeiaaa.Leb
set_option linter.unusedVariables false
set_option linter.unusedSimpArgs false

/-! ### round trips, truncation, uniqueness -/
theorem rt_int {n : Int} (h : InRange n) (p q : List UInt8) : intL (p ++ leb (zig n) ++ q) p.length = (n, (p.length : Int) + ((leb (zig n)).length : Nat), 0) := by
  rw [intL_in (by simp), List.append_assoc, List.drop_left, dec_leb h]
theorem len_zig {n : Nat} (h : n ≤ 65536) : InRange (n : Int) := by unfold InRange; omega
theorem putS_eq {t : List UInt8} (h : t.length ≤ 65536) : putS t = (leb (2 * t.length) ++ t, 0) := by unfold putS; rw [if_pos h]
theorem rt_str {t : List UInt8} (h : t.length ≤ 65536) (p q : List UInt8) : strL (p ++ (leb (2 * t.length) ++ t) ++ q) p.length = (t, (p.length : Int) + ((leb (2 * t.length) ++ t).length : Nat), 0) := by
  unfold strL
  have e : p ++ (leb (2 * t.length) ++ t) ++ q = p ++ leb (zig (t.length : Int)) ++ (t ++ q) := by rw [zig_nat]; simp
  rw [e, rt_int (len_zig h)]
  simp only
  rw [if_neg (by simp), if_neg (by rw [zig_nat]; simp; omega), zig_nat]
  have e2 : ((p.length : Int) + ((leb (2 * t.length)).length : Nat)).toNat = (p ++ leb (2 * t.length)).length := by rw [List.length_append]; omega
  rw [e2, List.drop_left, Int.toNat_natCast, List.take_left]
  simp; omega


/-- what Int accepts at an offset, and what it says where it accepts nothing -/
theorem intL_cases {l : List UInt8} {k : Nat} (hk : k ≤ l.length) :
    (∃ (n : Int) (m : Nat), intL l k = (n, (k : Int) + (m : Nat), 0) ∧ InRange n ∧ m = (leb (zig n)).length ∧ k + m ≤ l.length ∧ (l.drop k).take m = leb (zig n)) ∨ intL l k = (0, 0, 10) := by
  rw [intL_in hk]
  cases hd : dec (l.drop k) with
  | none => exact .inr rfl
  | some x =>
    obtain ⟨n, m⟩ := x
    obtain ⟨h1, h2, h3, h4⟩ := dec_sound hd
    rw [List.length_drop] at h4
    exact .inl ⟨n, m, rfl, h1, h3, by omega, h2⟩

/-- what String accepts at an offset, and what it says where it accepts nothing -/
theorem strL_cases {l : List UInt8} {k : Nat} (hk : k ≤ l.length) :
    (∃ (v : List UInt8) (m : Nat), strL l k = (v, (k : Int) + (m : Nat), 0) ∧ v.length ≤ 65536 ∧ k + m ≤ l.length ∧ (l.drop k).take m = leb (2 * v.length) ++ v) ∨ strL l k = ([], 0, 10) := by
  unfold strL
  rcases intL_cases hk with ⟨n, m, h, hr, hm, hlen, ht⟩ | h
  · rw [h]
    simp only
    rw [if_neg (by simp)]
    by_cases hb : n < 0 ∨ 65536 < n ∨ (l.length : Int) - ((k : Int) + (m : Nat)) < n
    · rw [if_pos hb]; exact .inr rfl
    · rw [if_neg hb]
      obtain ⟨j, rfl⟩ : ∃ j : Nat, n = j := ⟨n.toNat, by omega⟩
      refine .inl ⟨(l.drop (k + m)).take j, m + j, ?_, ?_, by omega, ?_⟩
      · rw [show ((k : Int) + (m : Nat)).toNat = k + m by omega, Int.toNat_natCast]
        simp only [Prod.mk.injEq, true_and, and_true]; omega
      · rw [List.length_take]; omega
      · have hj : ((l.drop (k + m)).take j).length = j := by rw [List.length_take, List.length_drop]; omega
        rw [hj, ← zig_nat, ← ht, List.take_add, List.drop_drop]
  · rw [h]; simp only; rw [if_pos (by decide)]; exact .inr rfl


/-- no encoding is the beginning of another one -/
theorem leb_prefix {x y : Nat} (hx : (leb x).length ≤ 9) (hy : (leb y).length ≤ 9) {q r : List UInt8} (h : leb x ++ q = leb y ++ r) : x = y := by
  have h1 := rd_leb q 9 x hx
  have h2 := rd_leb r 9 y hy
  rw [h, h2] at h1
  simp only [Option.some.injEq, Prod.mk.injEq] at h1
  exact h1.1.symm

theorem trunc_int {n : Int} (h : InRange n) {k : Nat} (hk : k < (leb (zig n)).length) : intL ((leb (zig n)).take k) 0 = (0, 0, 10) := by
  rcases intL_cases (l := (leb (zig n)).take k) (k := 0) (by omega) with ⟨m, j, _, hr, hj, hlen, ht⟩ | h0
  · exfalso
    rw [List.drop_zero, List.take_take] at ht
    have hjk : min j k = j := by rw [List.length_take] at hlen; omega
    rw [hjk] at ht
    have := leb_prefix (zig_len hr) (zig_len h) (q := (leb (zig n)).drop j) (r := []) (by rw [← ht, List.take_append_drop]; simp)
    rw [this] at hj
    rw [List.length_take] at hlen; omega
  · exact_mod_cast h0

theorem trunc_str {t : List UInt8} (h : t.length ≤ 65536) {k : Nat} (hk : k < (leb (2 * t.length) ++ t).length) : strL ((leb (2 * t.length) ++ t).take k) 0 = ([], 0, 10) := by
  rcases strL_cases (l := (leb (2 * t.length) ++ t).take k) (k := 0) (by omega) with ⟨v, j, _, hv, hlen, ht⟩ | h0
  · exfalso
    rw [List.drop_zero, List.take_take] at ht
    have hjk : min j k = j := by rw [List.length_take] at hlen; omega
    rw [hjk] at ht
    have hv9 : (leb (2 * v.length)).length ≤ 9 := by rw [← zig_nat]; exact zig_len (len_zig hv)
    have ht9 : (leb (2 * t.length)).length ≤ 9 := by rw [← zig_nat]; exact zig_len (len_zig h)
    have := leb_prefix hv9 ht9 (q := v ++ (leb (2 * t.length) ++ t).drop j) (r := t) (by rw [← List.append_assoc, ← ht, List.take_append_drop])
    have hl := congrArg List.length ht
    rw [List.length_take, List.length_append, this] at hl
    rw [List.length_append] at hk hl
    rw [List.length_take, List.length_append] at hlen
    omega
  · exact_mod_cast h0

end Go.Proofs.Yteilkigdlkeiaaa.Leb
