/- LifeOne at its arguments' readings. -/
import Derived.Test.YteilkigdlkeiaaaOne
import Derived.Test.YteilkigdlkeiaaaSaneL
import Derived.Test.YteilkigdlkeiaaaOpen3
namespace Go.Proofs.Yteilkigdlkeiaaa.Lf
set_option linter.unusedVariables false
set_option linter.unusedSimpArgs false
open Go Go.RowKit

theorem one_walkV {H : Type} {enc : TypeId × Value → H} {base : Nat} {d : DataW H} {pl : List MemPlace} (v : Value) (t u : Int) (w : World)
    (hv : Value.okWide Try.prog w .any base 22 v) (h : DataW.Trod enc Try.prog w 0 (fun _ => true) true 22 v d pl) (hs : Open.Sized Try.prog 22 d) (ht : I64 t) (hu : I64 u) :
    Calls Try.prog 4 #[v, .int .i64 t, .int .i64 u] w fun e w' => e = .returned (.bool true) ∧ Below w.heap.size w w' := by
  obtain ⟨A, n, c, X, rfl, hn, hn2, hX, hE⟩ := Open3.open_triples Try.underlying22 Try.underlying23 Try.underlying3 (by kernel_rfl) (by kernel_rfl) (by kernel_rfl) hv h hs
  exact one_walk sane_any A n c X t u hn (by omega) hX ht hu w hE
end Go.Proofs.Yteilkigdlkeiaaa.Lf
