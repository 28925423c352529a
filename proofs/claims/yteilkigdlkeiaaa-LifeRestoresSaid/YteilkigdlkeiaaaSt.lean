/- A cell that was stored into twice. -/
import Derived.Laws.Entries
namespace Go.Proofs.Yteilkigdlkeiaaa.St
open Go
theorem cell_map (w : World) (a : Addr) (v : Value) : (w.setCell a v).cell? a = (w.cell? a).map fun _ => v := by
  rcases h : w.cell? a with _ | u
  · simp only [Option.map_none]
    unfold World.cell? at h ⊢
    unfold World.setCell
    simp only [Array.getElem?_modify, if_true]
    rcases ho : w.heap[a.block]? with _ | o
    · simp
    · rw [ho] at h
      cases o <;> simp_all
  · rw [World.cell?_setCell_same' w a v (by rw [h]; rfl)]; rfl
end Go.Proofs.Yteilkigdlkeiaaa.St
