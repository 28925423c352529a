/- Arguments opened by their readings: a slice of arrays of three integers, as the printed contracts want it. -/
import Derived.Test.YteilkigdlkeiaaaOpen
import Derived.Test.YteilkigdlkeiaaaPu
import Derived.Laws.IdiomArrays
import Derived.ChangeArms
namespace Go.Proofs.Yteilkigdlkeiaaa.Open4
set_option linter.unusedVariables false
set_option linter.unusedSimpArgs false
open Go Go.RowKit Go.ChangeShapes Go.WideShapes Go.Proofs.Yteilkigdlkeiaaa.Open Go.Proofs.Yteilkigdlkeiaaa.Lf
open Go.Proofs.YteilkigdlkeiaaaW.PrintWords (Kd)

variable {H : Type} {enc : TypeId × Value → H} {P : Program} {w : World} {base b0 : Nat} {spare : Nat → Bool} {held : Bool} {r : Reach}

theorem list_of {α : Type} (n : Nat) (Q : Nat → α → Prop) (h : ∀ i, i < n → ∃ x, Q i x) : ∃ X : List α, X.length = n ∧ ∀ i (hi : i < X.length), Q i X[i] := by
  induction n with
  | zero => exact ⟨[], rfl, fun i hi => absurd hi (by simp)⟩
  | succ n ih =>
    obtain ⟨X, hl, hX⟩ := ih fun i hi => h i (by omega)
    obtain ⟨x, hx⟩ := h n (by omega)
    refine ⟨X ++ [x], by simp [hl], fun i hi => ?_⟩
    by_cases e : i < X.length
    · rw [List.getElem_append_left e]; exact hX i e
    · have : i = n := by simp at hi; omega
      subst this
      rw [List.getElem_append_right (by omega)]
      simp [hl]
      exact hx

theorem open_triples {t e i : TypeId} {v : Value} {d : DataW H} {p : List MemPlace} (ht : P.underlying t = some (.slice e)) (he : P.underlying e = some (.array 3 i)) (hi : P.underlying i = some (.int .i64)) (hC : P.cellsOf e = 3) (hCi : P.cellsOf i = 1) (hb : P.bytesOf e = 24)
    (hv : Value.okWide P w r b0 t v) (h : DataW.Trod enc P w base spare held t v d p) (hs : Sized P t d) :
    ∃ (A : Option Addr) (n c : Nat) (X : List Ev), v = .slice A n c ∧ X.length = n ∧ n ≤ 140737488351232 ∧ n ≤ c ∧ (∀ x ∈ X, I64 x.k ∧ I64 x.a ∧ I64 x.h) ∧ EvsIn w A X := by
  obtain ⟨a, n, c, rfl⟩ := okWide_slice ht hv
  obtain ⟨fuel, hf⟩ := h
  rcases DataW.trod_slice ht hf with ⟨hcs, hx⟩ | ⟨a', len, cap, elems, rest, m, -, hcs, hx, -, hlc, -, hlen, hel, -, -⟩
  · have hcs' : Value.slice a n c = Value.slice none 0 0 := by simpa [Value.cells] using hcs
    injection hcs' with h1 h2 h3
    subst h1 h2 h3
    exact ⟨none, 0, 0, [], rfl, rfl, by omega, Nat.le_refl _, fun x hx => by simp at hx, fun k hk => absurd hk (by simp)⟩
  · have hcs' : Value.slice a n c = Value.slice (some a') len cap := by simpa [Value.cells] using hcs
    injection hcs' with h1 h2 h3
    subst h1 h2 h3
    have hd : d = .slice (elems.map (·.1)) (rest.map (·.1)) := congrArg Prod.fst hx
    subst hd
    have hw := hs (((elems.map (·.1)).length + (rest.map (·.1)).length) * P.bytesOf e) (by simp [DataW.weights, ht])
    rw [hb] at hw
    simp only [List.length_map] at hw
    have hX := list_of n (fun k (x : Ev) => (I64 x.k ∧ I64 x.a ∧ I64 x.h) ∧ w.cell? (a'.add (k * 3)) = some (.int .i64 x.k) ∧ w.cell? ⟨(a'.add (k * 3)).block, (a'.add (k * 3)).off + 1, none⟩ = some (.int .i64 x.a) ∧ w.cell? ⟨(a'.add (k * 3)).block, (a'.add (k * 3)).off + 2, none⟩ = some (.int .i64 x.h)) (fun k hk => by
      have h1 := hel k hk
      rw [hC, List.getElem?_eq_getElem (by omega)] at h1
      obtain ⟨cs, hc, htr⟩ := Option.bind_eq_some_iff.1 h1
      obtain ⟨-, hcl, hcc⟩ := World.cells?_some hc
      match cs, hcl with
      | [c0, c1, c2], _ =>
        obtain ⟨y0, y1, y2, f, -, t0, t1, t2⟩ := trod_array3 he hCi htr
        obtain ⟨n0, e0, -, w0⟩ := DataW.trod_int hi t0
        obtain ⟨n1, e1, -, w1⟩ := DataW.trod_int hi t1
        obtain ⟨n2, e2, -, w2⟩ := DataW.trod_int hi t2
        simp only [List.cons.injEq, and_true] at e0 e1 e2
        subst e0 e1 e2
        have g0 := hcc 0 (by omega)
        have g1 := hcc 1 (by omega)
        have g2 := hcc 2 (by omega)
        rw [Addr.add_zero'] at g0
        rw [Addr.add_succ'] at g1 g2
        exact ⟨⟨n0, n1, n2⟩, ⟨bounds_i64 w0, bounds_i64 w1, bounds_i64 w2⟩, g0, g1, g2⟩)
    obtain ⟨X, hXl, hXa⟩ := hX
    refine ⟨some a', n, c, X, rfl, hXl, by omega, hlc, fun x hx => ?_, fun k hk => ⟨a', rfl, (hXa k hk).2⟩⟩
    obtain ⟨j, hj, rfl⟩ := List.getElem_of_mem hx
    exact (hXa j hj).1

theorem open_X {v : Value} {d : DataW H} {p : List MemPlace} (hv : Value.okWide Try.prog w r b0 22 v) (h : DataW.Trod enc Try.prog w base spare held 22 v d p) (hs : Sized Try.prog 22 d) :
    ∃ (A : Option Addr) (c : Nat) (X : List Q.SX), v = .slice A X.length c ∧ X.length ≤ c ∧ Q.OkX X ∧ Kd.C Q.k23 w A X.length X := by
  obtain ⟨A, n, c, X, rfl, hn, hn2, hc, hX, hE⟩ := open_triples Try.underlying22 Try.underlying23 Try.underlying3 (by kernel_rfl) (by kernel_rfl) (by kernel_rfl) hv h hs
  subst hn
  refine ⟨A, c, X.map fun e => (⟨e.k, e.a, e.h⟩ : Q.SX), by rw [List.length_map], by rw [List.length_map]; exact hc, ⟨by rw [List.length_map]; exact hn2, fun x hx => ?_⟩, ?_⟩
  · obtain ⟨e, he, rfl⟩ := List.mem_map.1 hx
    exact hX e he
  · have := Q.triples_C hE hn2
    rw [List.length_map]
    exact this
end Go.Proofs.Yteilkigdlkeiaaa.Open4
