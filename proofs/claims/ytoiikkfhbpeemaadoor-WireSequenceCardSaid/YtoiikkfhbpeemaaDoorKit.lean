/- Small laws for the walks: min and max of two whole numbers, and a string cut to a length. -/
import Derived.WalkKit
import Derived.Lib.Strings
import Derived.Lib.Hide
import Derived.Laws.Slices
namespace Go.Proofs.YtoiikkfhbpeemaaDoor.Kit
set_option linter.unusedVariables false
set_option linter.unusedSimpArgs false
open Go Go.RowKit

theorem max2_i (k k' : IntKind) (x y : Int) : Builtin.max2 (.int k x) (.int k' y) = pure (.int k (if x < y then y else x)) := by simp only [Builtin.max2, gt_iff_lt]
theorem min2_i (k k' : IntKind) (x y : Int) : Builtin.min2 (.int k x) (.int k' y) = pure (.int k (if y < x then y else x)) := by simp only [Builtin.min2]
theorem max_2 (ats : Array TypeId) (ty : TypeId) (a b : Value) : Builtin.max_ ats ty #[a, b] = (Builtin.max2 a b >>= fun s => pure s) := by simp only [Builtin.max_, List.foldlM_cons, List.foldlM_nil]
theorem min_2 (ats : Array TypeId) (ty : TypeId) (a b : Value) : Builtin.min_ ats ty #[a, b] = (Builtin.min2 a b >>= fun s => pure s) := by simp only [Builtin.min_, List.foldlM_cons, List.foldlM_nil]
theorem min_3 (ats : Array TypeId) (ty : TypeId) (a b c : Value) : Builtin.min_ ats ty #[a, b, c] = (Builtin.min2 a b >>= fun s => Builtin.min2 s c >>= fun s => pure s) := by simp only [Builtin.min_, List.foldlM_cons, List.foldlM_nil]
theorem min_4 (ats : Array TypeId) (ty : TypeId) (a b c d : Value) : Builtin.min_ ats ty #[a, b, c, d] = (Builtin.min2 a b >>= fun s => Builtin.min2 s c >>= fun s => Builtin.min2 s d >>= fun s => pure s) := by simp only [Builtin.min_, List.foldlM_cons, List.foldlM_nil]

/-- what the walk asks of 's[:min(len(s), b)]' -/
theorem cut_facts (s : ByteArray) (b : Nat) : ∃ m : Nat, (if (b : Int) < (s.size : Int) then (b : Int) else (s.size : Int)) = (m : Int) ∧ m ≤ s.size ∧ (s.extract 0 m).size ≤ b ∧ m = min s.size b := by
  refine ⟨min s.size b, ?_, Nat.min_le_left _ _, ?_, rfl⟩
  · split <;> omega
  · rw [ByteArray.size_extract]; omega

end Go.Proofs.YtoiikkfhbpeemaaDoor.Kit
