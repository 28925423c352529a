/- Lives: the lines after the events of a list, as plain functions; blocks of cells. -/
import Derived.Test.YteilkigdlkeiaaaLifeDefs
import Derived.WalkKit
import Derived.Below
import Derived.RangeFuncBox
import Derived.RangeFuncNested
namespace Go.Proofs.Yteilkigdlkeiaaa.Lf
set_option linter.unusedVariables false
set_option linter.unusedSimpArgs false
open Go Go.RowKit

/-- the lines after events as long as these are possible, with their indices -/
def after : Nat → Ln → List Ev → List (Int × Ln)
  | _, _, [] => []
  | i, l, e :: es => match step l e with
    | none => []
    | some n => ((i : Int), n) :: after (i + 1) n es
def items (L : List Ev) : List (Int × Ln) := (-1, firstL) :: after 0 firstL L

/-- a block of cells -/
def Blk (W : World) (b : Nat) (c : Array Value) (t : TypeId) : Prop := W.heap[b]? = some (.cells c t (0, 0))
theorem Blk.lt {W : World} {b : Nat} {c : Array Value} {t : TypeId} (h : Blk W b c t) : b < W.heap.size := (Array.getElem?_eq_some_iff.1 h).1
theorem Blk.cell {W : World} {b : Nat} {c : Array Value} {t : TypeId} (h : Blk W b c t) (i : Nat) {v : Value} (hv : c[i]? = some v) : W.cell? ⟨b, i, none⟩ = some v := by simp [World.cell?, show W.heap[b]? = _ from h, hv]
theorem Blk.frozen {W : World} {b : Nat} {c : Array Value} {t : TypeId} (h : Blk W b c t) (i : Nat) : W.frozen? ⟨b, i, none⟩ = false := by simp [World.frozen?, show W.heap[b]? = _ from h]
theorem Blk.new (W : World) (c : Array Value) (t : TypeId) : Blk (W.alloc (.cells c t)) W.heap.size c t := World.alloc_heap_new W _
theorem Blk.alloc {W : World} {b : Nat} {c : Array Value} {t : TypeId} (h : Blk W b c t) (o : Obj) : Blk (W.alloc o) b c t := (Below.heap_alloc _ _ _ h.lt).trans h
theorem Blk.below {W W' : World} {b n : Nat} {c : Array Value} {t : TypeId} (h : Blk W b c t) (hB : Below n W W') (hn : b < n) : Blk W' b c t := (hB.block b hn).trans h
theorem Blk.other {W : World} {b b' : Nat} {c : Array Value} {t : TypeId} (h : Blk W b c t) (hne : b ≠ b') (i : Nat) (u : Value) : Blk (W.setCell ⟨b', i, none⟩ u) b c t := by
  show (W.setCell ⟨b', i, none⟩ u).heap[b]? = _
  simp only [World.setCell]
  rw [Array.getElem?_modify, if_neg (by show ¬ b' = b; omega)]
  exact h
theorem Blk.set {W : World} {b : Nat} {c : Array Value} {t : TypeId} (h : Blk W b c t) (i : Nat) (u : Value) : Blk (W.setCell ⟨b, i, none⟩ u) b (c.setIfInBounds i u) t := by
  show (W.setCell ⟨b, i, none⟩ u).heap[b]? = _
  simp only [World.setCell]
  rw [Array.getElem?_modify, if_pos rfl, show W.heap[b]? = _ from h]
  rfl

/-- the iterator's steps keep every block but its own -/
structure Ab (B0 : Nat) (A A' : World) : Prop where
  size : A.heap.size ≤ A'.heap.size
  os : A'.os = A.os
  tape : A'.tape = A.tape
  output : A'.output = A.output
  block : ∀ k o, A.heap[k]? = some o → (k = B0 → ∀ c f, o ≠ .cells c 26 f) → A'.heap[k]? = some o
theorem Ab.refl (B0 : Nat) (A : World) : Ab B0 A A := ⟨Nat.le_refl _, rfl, rfl, rfl, fun _ _ h _ => h⟩
theorem Ab.trans {B0 : Nat} {A B C : World} (h1 : Ab B0 A B) (h2 : Ab B0 B C) : Ab B0 A C :=
  ⟨Nat.le_trans h1.size h2.size, h2.os.trans h1.os, h2.tape.trans h1.tape, h2.output.trans h1.output, fun k o hk hc => h2.block k o (h1.block k o hk hc) hc⟩
theorem Ab.below {B0 : Nat} {A B : World} (h : Below A.heap.size A B) : Ab B0 A B :=
  ⟨h.size, h.os, h.tape, h.output, fun k o hk _ => (h.block k (Array.getElem?_eq_some_iff.1 hk).1).trans hk⟩
theorem Ab.alloc (B0 : Nat) (A : World) (o : Obj) : Ab B0 A (A.alloc o) := Ab.below ((Below.refl _ A).alloc (Nat.le_refl _) o)
theorem Ab.setCell {B0 : Nat} {A : World} {c : Array Value} (hb : Blk A B0 c 26) (i : Nat) (v : Value) : Ab B0 A (A.setCell ⟨B0, i, none⟩ v) := by
  refine ⟨by simp [World.setCell], rfl, rfl, rfl, fun k o hk hc => ?_⟩
  simp only [World.setCell]
  by_cases hbk : B0 = k
  · subst hbk
    rw [show A.heap[B0]? = _ from hb] at hk
    cases hk
    exact absurd rfl (hc rfl _ _)
  · rw [Array.getElem?_modify, if_neg hbk]; exact hk
theorem Ab.blk {B0 : Nat} {A A' : World} (h : Ab B0 A A') {b : Nat} {c : Array Value} {t : TypeId} (hb : Blk A b c t) (hne : b ≠ B0 ∨ t ≠ 26) : Blk A' b c t := h.block b _ hb fun e c' f e' => by rcases hne with h | h; exact h e; cases e'; exact h rfl

/-- a round keeps every block but the caller's: those of F, and rows of stays that are not older than N0 -/
structure Kp (F : Nat → Prop) (N0 : Nat) (r r' : Option Nat) (A A' : World) : Prop where
  size : A.heap.size ≤ A'.heap.size
  block : ∀ k c t f, A.heap[k]? = some (.cells c t f) → ¬ F k → (k < N0 ∨ t ≠ 62) → A'.heap[k]? = some (.cells c t f)
  mark : r' = r
theorem Kp.trans {F : Nat → Prop} {N0 : Nat} {r1 r2 r3 : Option Nat} {A B C : World} (h1 : Kp F N0 r1 r2 A B) (h2 : Kp F N0 r2 r3 B C) : Kp F N0 r1 r3 A C :=
  ⟨Nat.le_trans h1.size h2.size, fun k c t f hk hF hr => h2.block k c t f (h1.block k c t f hk hF hr) hF hr, h2.mark.trans h1.mark⟩
theorem Kp.book {F : Nat → Prop} {N0 : Nat} (r : Option Nat) (W : World) (l : Nat) (o o' : Obj) (hl : W.heap[l]? = some o) (ho : o.isCells = false) : Kp F N0 r r W (W.putObj l o') := by
  refine ⟨by simp, fun k c t f hk _ _ => ?_, rfl⟩
  by_cases e : k = l
  · subst e; rw [hl] at hk; cases hk; cases ho
  · rw [World.putObj_heap_other e]; exact hk
theorem Kp.blk {F : Nat → Prop} {N0 : Nat} {r r' : Option Nat} {A A' : World} (h : Kp F N0 r r' A A') {b : Nat} {c : Array Value} {t : TypeId} (hb : Blk A b c t) (hF : ¬ F b) (hr : b < N0 ∨ t ≠ 62) : Blk A' b c t := h.block b _ _ _ hb hF hr
theorem Kp.below {F : Nat → Prop} {N0 : Nat} (r : Option Nat) {A A' : World} (h : Below A.heap.size A A') : Kp F N0 r r A A' :=
  ⟨h.size, fun k c t f hk _ _ => (h.block k (Array.getElem?_eq_some_iff.1 hk).1).trans hk, rfl⟩
theorem Kp.alloc {F : Nat → Prop} {N0 : Nat} (r : Option Nat) (W : World) (o : Obj) : Kp F N0 r r W (W.alloc o) := Kp.below r ((Below.refl _ W).alloc (Nat.le_refl _) o)
theorem Kp.drew {F : Nat → Prop} {N0 : Nat} (r : Option Nat) (W : World) : Kp F N0 r r W W.drew := ⟨Nat.le_refl _, fun _ _ _ _ h _ _ => h, rfl⟩
theorem Blk.drew {W : World} {b : Nat} {c : Array Value} {t : TypeId} (h : Blk W b c t) : Blk W.drew b c t := h
theorem Kp.setCell {F : Nat → Prop} {N0 : Nat} (r : Option Nat) (W : World) (b i : Nat) (v : Value) (hb : F b) : Kp F N0 r r W (W.setCell ⟨b, i, none⟩ v) := by
  refine ⟨by simp [World.setCell], fun k c t f hk hF _ => ?_, rfl⟩
  simp only [World.setCell]
  rw [Array.getElem?_modify, if_neg (fun e : b = k => hF (e ▸ hb))]; exact hk
theorem Blk.putObj {W : World} {b : Nat} {c : Array Value} {t : TypeId} (h : Blk W b c t) {l : Nat} {o : Obj} (o' : Obj) (hl : W.heap[l]? = some o) (ho : o.isCells = false) : Blk (W.putObj l o') b c t := by
  refine (World.putObj_heap_other (fun e => ?_)).trans h
  subst e
  rw [show W.heap[b]? = _ from h] at hl; cases hl; cases ho
theorem below_ab {B0 : Nat} {w A B : World} (h : Below w.heap.size w A) (hab : Ab B0 A B) (hB : w.heap.size ≤ B0) : Below w.heap.size w B :=
  ⟨hab.os.trans h.os, hab.tape.trans h.tape, hab.output.trans h.output, Nat.le_trans h.size hab.size, fun k hk => by
    have e := h.block k hk
    have hs : w.heap[k]? = some w.heap[k] := Array.getElem?_eq_getElem hk
    rw [hab.block k w.heap[k] (e.trans hs) (fun e' => by omega), hs]⟩
theorem below_putObj {n l : Nat} {w A : World} {o' : Obj} (h : Below n w A) (hl : n ≤ l) : Below n w (A.putObj l o') :=
  ⟨h.os, h.tape, h.output, by simpa using h.size, fun k hk => (World.putObj_heap_other (by omega)).trans (h.block k hk)⟩

def Lt (r : Option Nat) (A : World) : Prop := True

end Go.Proofs.Yteilkigdlkeiaaa.Lf
