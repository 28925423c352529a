/- LifeParts at its arguments' readings. -/
import Derived.Test.YteilkigdlkeiaaaLParts
import Derived.Test.YteilkigdlkeiaaaOpen4
namespace Go.Proofs.Yteilkigdlkeiaaa.Q
set_option linter.unusedVariables false
open Go Go.RowKit Lf
theorem parts_walkV {H : Type} {enc : TypeId × Value → H} {base : Nat} {d : DataW H} {pl : List MemPlace} (v0 : Value) (a1 : Int) (a2 : Int) (w : World)
    (hv : Value.okWide Try.prog w .any base 22 v0) (h : DataW.Trod enc Try.prog w 0 (fun _ => true) true 22 v0 d pl) (hs : Open.Sized Try.prog 22 d) (b1 : I64 a1) (b2 : I64 a2) :
    Calls Try.prog 9 #[v0, .int .i64 a1, .int .i64 a2] w fun e w' => e = .returned (.bool true) ∧ Below w.heap.size w w' := by
  obtain ⟨A, c, X, rfl, hc, hX, hC⟩ := Open4.open_X hv h hs
  obtain ⟨k, hk⟩ := parts_is X hX a1 a2 b1 b2
  exact dialtonelaw14_LifeParts.calls k A c X a1 a2 true w hC hc hk
end Go.Proofs.Yteilkigdlkeiaaa.Q
