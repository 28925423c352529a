/- LifeStays at its arguments' readings. -/
import Derived.Test.YteilkigdlkeiaaaLStays
import Derived.Test.YteilkigdlkeiaaaOpen4
namespace Go.Proofs.Yteilkigdlkeiaaa.Q
set_option linter.unusedVariables false
open Go Go.RowKit Lf
theorem stays_walkV {H : Type} {enc : TypeId × Value → H} {base : Nat} {d : DataW H} {pl : List MemPlace} (v0 : Value) (a1 : Int) (w : World)
    (hv : Value.okWide Try.prog w .any base 22 v0) (h : DataW.Trod enc Try.prog w 0 (fun _ => true) true 22 v0 d pl) (hs : Open.Sized Try.prog 22 d) (b1 : I64 a1) :
    Calls Try.prog 8 #[v0, .int .i64 a1] w fun e w' => e = .returned (.bool true) ∧ Below w.heap.size w w' := by
  obtain ⟨A, c, X, rfl, hc, hX, hC⟩ := Open4.open_X hv h hs
  obtain ⟨k, hk⟩ := stays_is X hX a1 b1
  exact dialtonelaw14_LifeStays.calls k A c X a1 true w hC hc hk
end Go.Proofs.Yteilkigdlkeiaaa.Q
