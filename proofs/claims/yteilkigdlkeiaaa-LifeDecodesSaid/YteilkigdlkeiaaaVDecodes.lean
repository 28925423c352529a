/- LifeDecodes at its arguments' readings. -/
import Derived.Test.YteilkigdlkeiaaaLDecodes
import Derived.Test.YteilkigdlkeiaaaOpen4
namespace Go.Proofs.Yteilkigdlkeiaaa.Q
set_option linter.unusedVariables false
open Go Go.RowKit Lf
theorem decodes_walkV {H : Type} {enc : TypeId × Value → H} {base : Nat} {d : DataW H} {pl : List MemPlace} (v0 : Value) (a1 : Int) (a2 : Int) (a3 : ByteArray) (a4 : Int) (a5 : Int) (w : World)
    (hv : Value.okWide Try.prog w .any base 22 v0) (h : DataW.Trod enc Try.prog w 0 (fun _ => true) true 22 v0 d pl) (hs : Open.Sized Try.prog 22 d) (b1 : I64 a1) (b2 : I64 a2) (b3 : a3.size ≤ 140737488351232) (b4 : I64 a4) (b5 : 0 ≤ a5 ∧ a5 ≤ 255) :
    Calls Try.prog 12 #[v0, .int .i64 a1, .int .i64 a2, .string a3, .int .i64 a4, .int .u8 a5] w fun e w' => e = .returned (.bool true) ∧ Below w.heap.size w w' := by
  obtain ⟨A, c, X, rfl, hc, hX, hC⟩ := Open4.open_X hv h hs
  obtain ⟨k, hk⟩ := decodes_is X hX a1 a2 a3 a4 a5 b1 b2 b3 b4 b5
  exact dialtonelaw14_LifeDecodes.calls k A c X a1 a2 a3 a4 a5 true w hC hc hk
end Go.Proofs.Yteilkigdlkeiaaa.Q
