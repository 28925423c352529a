/- LifeQuarantine at its arguments' readings. -/
import Derived.Test.YteilkigdlkeiaaaLQuarantine
import Derived.Test.YteilkigdlkeiaaaOpen4
namespace Go.Proofs.Yteilkigdlkeiaaa.Q
set_option linter.unusedVariables false
open Go Go.RowKit Lf
theorem quarantine_walkV {H : Type} {enc : TypeId × Value → H} {base : Nat} {d : DataW H} {pl : List MemPlace} (v0 : Value) (w : World)
    (hv : Value.okWide Try.prog w .any base 22 v0) (h : DataW.Trod enc Try.prog w 0 (fun _ => true) true 22 v0 d pl) (hs : Open.Sized Try.prog 22 d)  :
    Calls Try.prog 6 #[v0] w fun e w' => e = .returned (.bool true) ∧ Below w.heap.size w w' := by
  obtain ⟨A, c, X, rfl, hc, hX, hC⟩ := Open4.open_X hv h hs
  obtain ⟨k, hk⟩ := quarantine_is X hX 
  exact dialtonelaw14_LifeQuarantine.calls k A c X  true w hC hc hk
end Go.Proofs.Yteilkigdlkeiaaa.Q
