/- life.Step, by its contract. -/
import Derived.Test.YteilkigdlkeiaaaStep1
import Derived.Test.YteilkigdlkeiaaaStep2
import Derived.Test.YteilkigdlkeiaaaStep3
import Derived.Test.YteilkigdlkeiaaaStep4
import Derived.Test.YteilkigdlkeiaaaStep5
import Derived.Test.YteilkigdlkeiaaaStep6
import Derived.Test.YteilkigdlkeiaaaStep7
namespace Go.Proofs.Yteilkigdlkeiaaa.Lf
set_option linter.unusedVariables false
set_option linter.unusedSimpArgs false
open Go Go.RowKit

theorem step_any (l : Ln) (e : Ev) (w : World) :
    Calls Try.prog 32 #[l.v, e.v] w fun e' w' => e' = .returned (stepV (step l e)) ∧ Below w.heap.size w w' := by
  rcases h1 : validB l with _ | _
  · have : step l e = none := by rw [step, h1]; rfl
    rw [this]; exact step_early l e w (.inl h1)
  rcases h2 : formedB e with _ | _
  · have : step l e = none := by rw [step, h1, h2]; rfl
    rw [this]; exact step_early l e w (.inr (.inl ⟨h1, h2⟩))
  by_cases h3 : e.a < l.si
  · have : step l e = none := by
      have h4 : decide (l.si ≤ e.a) = false := decide_eq_false (by omega)
      rw [step, h1, h2, mayB, h4]; rfl
    rw [this]; exact step_early l e w (.inr (.inr ⟨h1, h2, h3⟩))
  · obtain ⟨st, ho, ep, si⟩ := l
    obtain ⟨k, a, h⟩ := e
    have h4 : si ≤ a := by simp only at h3; omega
    have hk := formed_facts h2
    rcases (show k = 1 ∨ k = 2 ∨ k = 3 ∨ k = 4 ∨ k = 5 ∨ k = 6 ∨ k = 7 by omega) with rfl | rfl | rfl | rfl | rfl | rfl | rfl
    · exact step_1 st ho ep si a h w h1 h2 h4
    · exact step_2 st ho ep si a h w h1 h2 h4
    · exact step_3 st ho ep si a h w h1 h2 h4
    · exact step_4 st ho ep si a h w h1 h2 h4
    · exact step_5 st ho ep si a h w h1 h2 h4
    · exact step_6 st ho ep si a h w h1 h2 h4
    · exact step_7 st ho ep si a h w h1 h2 h4
end Go.Proofs.Yteilkigdlkeiaaa.Lf
