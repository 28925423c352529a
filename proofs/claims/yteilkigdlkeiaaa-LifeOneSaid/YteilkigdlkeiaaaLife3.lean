/- life: First, possible, Step. -/
import Derived.Test.YteilkigdlkeiaaaLife2
namespace Go.Proofs.Yteilkigdlkeiaaa.Lf
set_option linter.unusedVariables false
set_option linter.unusedSimpArgs false
open Go Go.RowKit

theorem results_cell1 {fn : Func} {p : Tmp} {ty : TypeId} (h : fn.results = #[.cell p ty]) (tmps : Array Value) (P : Program) (w : World) :
    (results fn tmps).run P w = ((asAddr (tmps.getD p undef)).run P w).andThen fun a w₁ => (loadVar ty a).run P w₁ := by
  simp only [results, h]
  simp [Sem.run_bind, Result.andThen]

theorem first_any (w : World) :
    Calls Try.prog 39 #[] w fun e' w' => e' = .returned firstL.v ∧ Below w.heap.size w w' := by
  go_enter Try.func39, Try.ntmps39
  go_wp2
  refine bodyPost_ret (v := firstL.v) (by rw [results_cell1 rfl]; go_simp; rfl) rfl ⟨rfl, (Below.refl _ _).alloc (Nat.le_refl _) _⟩

def lineCells (l : Ln) : Array Value := #[.int .i64 l.st, .int .i64 l.ho, .int .i64 l.ep, .int .i64 l.si]
def evCells (e : Ev) : Array Value := #[.int .i64 e.k, .int .i64 e.a, .int .i64 e.h]

end Go.Proofs.Yteilkigdlkeiaaa.Lf
