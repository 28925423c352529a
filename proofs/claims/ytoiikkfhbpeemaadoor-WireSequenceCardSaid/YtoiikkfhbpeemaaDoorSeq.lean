/- A sequence of encodings, as plain lists of bytes. -/
import Derived.Test.YtoiikkfhbpeemaaDoorLeb2
import Derived.Test.YtoiikkfhbpeemaaDoorStr
namespace Go.Proofs.YtoiikkfhbpeemaaDoor.Seq
set_option linter.unusedVariables false
set_option linter.unusedSimpArgs false
open Go Go.RowKit Go.Proofs.YtoiikkfhbpeemaaDoor.PutInt Go.Proofs.YtoiikkfhbpeemaaDoor.Leb

/-- the encodings of the first k pairs -/
def E (n : Nat → Int) (v : Nat → ByteArray) : Nat → List UInt8
  | 0 => []
  | k + 1 => E n v k ++ (leb (zig (n k)) ++ (leb (2 * (v k).data.toList.length) ++ (v k).data.toList))

variable {n : Nat → Int} {v : Nat → ByteArray}

theorem E_more : ∀ (d k : Nat), ∃ q, E n v (k + d) = E n v k ++ q
  | 0, k => ⟨[], by simp⟩
  | d + 1, k => by
    obtain ⟨q, hq⟩ := E_more d k
    refine ⟨q ++ (leb (zig (n (k + d))) ++ (leb (2 * (v (k + d)).data.toList.length) ++ (v (k + d)).data.toList)), ?_⟩
    show E n v (k + d) ++ _ = _
    rw [hq, List.append_assoc]
    rfl

theorem E_at {i k : Nat} (h : i < k) : ∃ q, E n v k = E n v i ++ (leb (zig (n i)) ++ (leb (2 * (v i).data.toList.length) ++ (v i).data.toList)) ++ q := by
  obtain ⟨q, hq⟩ := E_more (n := n) (v := v) (k - (i + 1)) (i + 1)
  rw [show i + 1 + (k - (i + 1)) = k by omega] at hq
  exact ⟨q, hq⟩

theorem E_len (hn : ∀ i, InRange (n i)) (hv : ∀ i, (v i).data.toList.length ≤ 100) : ∀ k, (E n v k).length ≤ 118 * k
  | 0 => by simp [E]
  | k + 1 => by
    have h := E_len hn hv k
    have h1 := zig_len (hn k)
    have h2 : (leb (2 * (v k).data.toList.length)).length ≤ 9 := by rw [← zig_nat]; exact zig_len (len_zig (by have := hv k; omega))
    have h3 := hv k
    simp only [E, List.length_append]
    omega

/-- where the string of pair i begins -/
def mid (n : Nat → Int) (v : Nat → ByteArray) (i : Nat) : Nat := (E n v i).length + (leb (zig (n i))).length

theorem mid_le {i k : Nat} (h : i < k) : mid n v i ≤ (E n v k).length := by
  obtain ⟨q, hq⟩ := E_at (n := n) (v := v) h
  rw [hq, mid]
  simp only [List.length_append]
  omega

theorem int_at (hn : ∀ i, InRange (n i)) {i k : Nat} (h : i < k) : intL (E n v k) ((E n v i).length : Nat) = (n i, ((mid n v i : Nat) : Int), 0) := by
  obtain ⟨q, hq⟩ := E_at (n := n) (v := v) h
  rw [hq, show E n v i ++ (leb (zig (n i)) ++ (leb (2 * (v i).data.toList.length) ++ (v i).data.toList)) ++ q = E n v i ++ leb (zig (n i)) ++ ((leb (2 * (v i).data.toList.length) ++ (v i).data.toList) ++ q) by simp, rt_int (hn i), mid]
  simp

theorem str_at (hv : ∀ i, (v i).data.toList.length ≤ 100) {i k : Nat} (h : i < k) : strL (E n v k) (mid n v i : Nat) = ((v i).data.toList, (((E n v (i + 1)).length : Nat) : Int), 0) := by
  obtain ⟨q, hq⟩ := E_at (n := n) (v := v) h
  have e : E n v k = (E n v i ++ leb (zig (n i))) ++ (leb (2 * (v i).data.toList.length) ++ (v i).data.toList) ++ q := by rw [hq]; simp
  have e2 : mid n v i = (E n v i ++ leb (zig (n i))).length := by rw [mid, List.length_append]
  rw [e, e2, rt_str (by have := hv i; omega)]
  congr 1
  simp only [E, List.length_append]
  congr 1
  omega

theorem int_end (l : List UInt8) : intL l (l.length : Nat) = (0, 0, 10) := by
  rcases intL_cases (l := l) (k := l.length) (Nat.le_refl _) with ⟨n, m, h, hr, hm, hlen, ht⟩ | h
  · exfalso
    rw [List.drop_length, List.take_nil] at ht
    have := leb_pos (zig n)
    rw [← ht] at this
    simp at this
  · exact h

end Go.Proofs.YtoiikkfhbpeemaaDoor.Seq
