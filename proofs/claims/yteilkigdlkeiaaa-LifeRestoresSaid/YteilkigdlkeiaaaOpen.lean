/- Arguments opened by their readings: an array of two strings; what the form's reach says of each part. -/
import Derived.ProofKit
import Derived.OpenShut
import Derived.SizedLaws
import Derived.WideShapes
namespace Go.Proofs.Yteilkigdlkeiaaa.Open
set_option linter.unusedVariables false
set_option linter.unusedSimpArgs false
open Go Go.RowKit Go.ChangeShapes Go.WideShapes

variable {H : Type} {enc : TypeId × Value → H} {P : Program} {w : World} {base b0 : Nat} {spare : Nat → Bool} {held : Bool} {r : Reach}

/-- what the reach says of one argument -/
def Sized (P : Program) (t : TypeId) (d : DataW H) : Prop := ∀ n ∈ d.weights P t, n ≤ 140737488351232

theorem sized_of {ts : List TypeId} {ds : List (DataW H)} (h : (DataW.weightsEach P ts ds).all (· ≤ reachBytes) = true) {j : Nat} {t : TypeId} {d : DataW H} (ht : ts[j]? = some t) (hd : ds[j]? = some d) : Sized P t d := fun n hn => by
  have := List.all_eq_true.1 h _ (DataW.weights_mem_each ht hd n hn)
  exact of_decide_eq_true this

theorem open_str2 {t e : TypeId} {v : Value} {d : DataW H} {p : List MemPlace} (ht : P.underlying t = some (.array 2 e)) (he : P.underlying e = some .string) (hC : P.cellsOf t = 2) (hCe : P.cellsOf e = 1)
    (hv : Value.okWide P w r b0 t v) (h : DataW.Trod enc P w base spare held t v d p) (hs : Sized P t d) : ∃ a b : ByteArray, v = .agg #[.string a, .string b] ∧ a.size ≤ 140737488351232 ∧ b.size ≤ 140737488351232 := by
  simp only [Value.okWide, ht] at hv
  obtain ⟨cs, rfl, hsz, _⟩ := hv
  rw [hC] at hsz
  obtain ⟨fuel, hf⟩ := h
  obtain ⟨xs, m, rfl, hx, hl, hn, hi⟩ := DataW.trod_array ht hf
  simp only [Value.cells] at hi
  rw [hCe] at hi
  have e0 := hi 0 (by decide)
  have e1 := hi 1 (by decide)
  obtain ⟨cl⟩ := cs
  match cl, hsz with
  | [c0, c1], _ =>
    match xs, hn with
    | [x0, x1], _ =>
      simp at e0 e1
      obtain ⟨a, ha, hx0, _⟩ := DataW.trod_string he e0
      obtain ⟨b, hb, hx1, _⟩ := DataW.trod_string he e1
      simp at ha hb
      subst ha; subst hb
      have hd : d = .agg [x0.1, x1.1] := by simpa using congrArg Prod.fst hx
      rw [hx0, hx1] at hd
      subst hd
      refine ⟨a, b, rfl, ?_, ?_⟩
      · have := hs a.data.toList.length (by simp [DataW.weights, ht, DataW.weightsAll])
        simpa using this
      · have := hs b.data.toList.length (by simp [DataW.weights, ht, DataW.weightsAll])
        simpa using this

end Go.Proofs.Yteilkigdlkeiaaa.Open
