/- Arguments opened by their readings: a slice of integers, a slice of strings. -/
import Derived.Test.YtoiikkfhbpeemaaDoorOpen
import Derived.SliceStrings
namespace Go.Proofs.YtoiikkfhbpeemaaDoor.Open2
set_option linter.unusedVariables false
set_option linter.unusedSimpArgs false
open Go Go.RowKit Go.ChangeShapes Go.WideShapes Go.Proofs.YtoiikkfhbpeemaaDoor.Open

variable {H : Type} {enc : TypeId × Value → H} {P : Program} {w : World} {base b0 : Nat} {spare : Nat → Bool} {held : Bool} {r : Reach}

theorem weights_all {e : TypeId} : ∀ {l : List (DataW H)} {d : DataW H}, d ∈ l → ∀ n ∈ d.weights P e, n ∈ DataW.weightsAll P e l
  | x :: l, d, hd, n, hn => by
    rw [DataW.weightsAll, List.mem_append]
    rcases List.mem_cons.1 hd with rfl | h
    · exact Or.inl hn
    · exact Or.inr (weights_all h n hn)

theorem open_ints {t e : TypeId} {v : Value} {d : DataW H} {p : List MemPlace} (ht : P.underlying t = some (.slice e)) (he : P.underlying e = some (.int .i64)) (hC : P.cellsOf e = 1) (hb : P.bytesOf e = 8)
    (hv : Value.okWide P w r b0 t v) (h : DataW.Trod enc P w base spare held t v d p) (hs : Sized P t d) :
    ∃ (A : Option Addr) (n c : Nat) (z : Nat → Int), v = .slice A n c ∧ n ≤ 140737488351232 ∧ (∀ i, -9223372036854775808 ≤ z i ∧ z i ≤ 9223372036854775807) ∧ ∀ i, i < n → ∃ ad, A = some ad ∧ w.cell? (ad.add i) = some (.int .i64 (z i)) := by
  obtain ⟨a, n, c, rfl⟩ := okWide_slice ht hv
  obtain ⟨fuel, hf⟩ := h
  rcases ChangeShapes.open_ints ht he hC hf with ⟨hcs, hx⟩ | ⟨a', len, cap, zs, hcs, _, hl, _, hzl, hx, hcell, hwf⟩
  · have hcs' : Value.slice a n c = Value.slice none 0 0 := by simpa [Value.cells] using hcs
    injection hcs' with h1 h2 h3
    subst h1 h2 h3
    exact ⟨none, 0, 0, fun _ => 0, rfl, by omega, fun _ => (show (-9223372036854775808 : Int) ≤ 0 ∧ (0 : Int) ≤ 9223372036854775807 by decide), fun i hi => absurd hi (Nat.not_lt_zero _)⟩
  · have hcs' : Value.slice a n c = Value.slice (some a') len cap := by simpa [Value.cells] using hcs
    injection hcs' with h1 h2 h3
    subst h1 h2 h3
    have hd : d = .slice (lits .i64 (zs.take n)) (lits .i64 (zs.drop n)) := congrArg Prod.fst hx
    subst hd
    have hnz : n ≤ zs.length := by rw [hzl]; split <;> omega
    have hw := hs (((lits (H := H) .i64 (zs.take n)).length + (lits (H := H) .i64 (zs.drop n)).length) * P.bytesOf e) (by simp [DataW.weights, ht])
    rw [hb] at hw
    simp only [lits, List.length_map, List.length_take, List.length_drop] at hw
    refine ⟨some a', n, c, fun i => zs.getD i 0, rfl, by omega, fun i => ?_, fun i hi => ⟨a', rfl, hcell i (by omega)⟩⟩
    by_cases hi : i < zs.length
    · have : zs.getD i 0 ∈ zs := by rw [List.getD_eq_getElem?_getD, List.getElem?_eq_getElem hi]; exact List.getElem_mem hi
      exact bounds_i64 (hwf _ this)
    · have : zs.getD i 0 = 0 := by rw [List.getD_eq_getElem?_getD, List.getElem?_eq_none (by omega)]; rfl
      show -9223372036854775808 ≤ zs.getD i 0 ∧ zs.getD i 0 ≤ 9223372036854775807
      rw [this]; omega

theorem open_strings {t e : TypeId} {v : Value} {d : DataW H} {p : List MemPlace} (ht : P.underlying t = some (.slice e)) (he : P.underlying e = some .string) (hC : P.cellsOf e = 1) (hb : P.bytesOf e = 16)
    (hv : Value.okWide P w r b0 t v) (h : DataW.Trod enc P w base spare held t v d p) (hs : Sized P t d) :
    ∃ (A : Option Addr) (n c : Nat) (z : Nat → ByteArray), v = .slice A n c ∧ n ≤ 140737488351232 ∧ (∀ i, (z i).size ≤ 140737488351232) ∧ ∀ i, i < n → ∃ ad, A = some ad ∧ w.cell? (ad.add i) = some (.string (z i)) := by
  obtain ⟨a, n, c, rfl⟩ := okWide_slice ht hv
  obtain ⟨fuel, hf⟩ := h
  rcases ChangeShapes.open_strings ht he hC hf with ⟨hcs, hx⟩ | ⟨a', len, cap, zs, hcs, _, hl, _, hzl, hx, hcell, hwf⟩
  · have hcs' : Value.slice a n c = Value.slice none 0 0 := by simpa [Value.cells] using hcs
    injection hcs' with h1 h2 h3
    subst h1 h2 h3
    exact ⟨none, 0, 0, fun _ => ByteArray.empty, rfl, by omega, fun _ => by simp, fun i hi => absurd hi (Nat.not_lt_zero _)⟩
  · have hcs' : Value.slice a n c = Value.slice (some a') len cap := by simpa [Value.cells] using hcs
    injection hcs' with h1 h2 h3
    subst h1 h2 h3
    have hd : d = .slice (strs (zs.take n)) (strs (zs.drop n)) := congrArg Prod.fst hx
    subst hd
    have hnz : n ≤ zs.length := by rw [hzl]; split <;> omega
    have hw := hs (((strs (H := H) (zs.take n)).length + (strs (H := H) (zs.drop n)).length) * P.bytesOf e) (by simp [DataW.weights, ht])
    rw [hb] at hw
    simp only [strs, List.length_map, List.length_take, List.length_drop] at hw
    refine ⟨some a', n, c, fun i => if i < n then zs.getD i ByteArray.empty else ByteArray.empty, rfl, by omega, fun i => ?_, fun i hi => ⟨a', rfl, by show _ = some (Value.string (if i < n then zs.getD i ByteArray.empty else ByteArray.empty)); rw [if_pos hi]; exact hcell i (by omega)⟩⟩
    show (if i < n then zs.getD i ByteArray.empty else ByteArray.empty).size ≤ 140737488351232
    split
    · rename_i hi
      have hm : zs.getD i ByteArray.empty ∈ zs.take n := by
        have hi2 : i < zs.length := by omega
        have e1 : zs.getD i ByteArray.empty = (zs.take n)[i]'(by rw [List.length_take]; omega) := by
          rw [List.getD_eq_getElem?_getD, List.getElem?_eq_getElem hi2, List.getElem_take]; rfl
        rw [e1]; exact List.getElem_mem _
      have hm2 : (DataW.lit (.string (zs.getD i ByteArray.empty).data.toList) : DataW H) ∈ strs (zs.take n) := List.mem_map.2 ⟨_, hm, rfl⟩
      have := hs (zs.getD i ByteArray.empty).data.toList.length (by
        have h3 := weights_all (P := P) (e := e) hm2 (zs.getD i ByteArray.empty).data.toList.length (by simp [DataW.weights])
        simp only [DataW.weights, ht, List.mem_cons, List.mem_append]
        exact Or.inr (Or.inl h3))
      simpa using this
    · simp

end Go.Proofs.YtoiikkfhbpeemaaDoor.Open2
