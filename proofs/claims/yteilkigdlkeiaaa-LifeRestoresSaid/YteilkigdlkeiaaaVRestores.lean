/- LifeRestores at its arguments' readings. -/
import Derived.Test.YteilkigdlkeiaaaLRestores
import Derived.Test.YteilkigdlkeiaaaQ18
import Derived.Test.YteilkigdlkeiaaaOpen4
namespace Go.Proofs.Yteilkigdlkeiaaa.Q
set_option linter.unusedVariables false
open Go Go.RowKit Lf
theorem restores_walkV {H : Type} {enc : TypeId × Value → H} {base : Nat} {d : DataW H} {pl : List MemPlace} (v0 : Value) (a1 : Int) (a2 : Int) (a3 : Int) (w : World)
    (hv : Value.okWide Try.prog w .any base 22 v0) (h : DataW.Trod enc Try.prog w 0 (fun _ => true) true 22 v0 d pl) (hs : Open.Sized Try.prog 22 d) (b1 : I64 a1) (b2 : I64 a2) (b3 : I64 a3) :
    Calls Try.prog 10 #[v0, .int .i64 a1, .int .i64 a2, .int .i64 a3] w fun e w' => e = .returned (.bool true) ∧ Below w.heap.size w w' := by
  obtain ⟨A, c, X, rfl, hc, hX, hC⟩ := Open4.open_X hv h hs
  obtain ⟨k, hk⟩ := restores_is X hX a1 a2 a3 b1 b2 b3
  exact dialtonelaw14_LifeRestores.calls k A c X a1 a2 a3 true w hC hc hk
end Go.Proofs.Yteilkigdlkeiaaa.Q
