/- (As XRf, but the caller's state carries a mark r beside the elements: a block of its own that may turn from round to round.) A law for 'for .. := range f' over an iterator that keeps state of its own in cells: the caller's invariant must only abide the iterator's own steps (Ab), and a round must keep what the iterator asks (Kp). (As XRf, but each round boxes one of its variables, and the caller's state carries a mark r beside the elements: a block of its own that may turn from round to round.) A law for 'for .. := range f' over an iterator that keeps state of its own in cells: the caller's invariant must only abide the iterator's own steps (Ab), and a round must keep what the iterator asks (Kp). Lives: the lines after the events of a list, as plain functions; blocks of cells. life.lines$1: the iterator over the lines of a list of events, by its contract. life.Run, by its contract. Lives: plain laws on the lines after events. sort.Search and the closure of life.at, by their contracts. A region that draws its order and only reads, inside a round of a range over a function: one walk in the text's order serves. -/
import Derived.RangeFuncNested
import Derived.RangeFuncBound
import Derived.RangeFuncCalls
import Derived.RangeFuncLeaves
import Derived.Shelf.Abstract
import Derived.Shelf.RegionOpen
import Derived.WalkKit
import Derived.OwnWalkIn
import Derived.TacticsInMore
import Derived.LoopNIn
import Derived.LoopIn
import Derived.Test.YteilkigdlkeiaaaG1
import Derived.Below
import Derived.RangeFuncBox
import Derived.Test.YteilkigdlkeiaaaG3
import Derived.RegionIn
import Derived.Lib.MinMax
import Derived.Deep.LoopGhost
import Derived.Sort.QuietIn
namespace Go.Proofs.Yteilkigdlkeiaaa.Rg
set_option linter.unusedVariables false
set_option linter.unusedSimpArgs false
open Go Go.RowKit

/-- What the iterator g promises every caller: J abides Ab; each round is handed the next element. -/
def Iter {α ρ : Type} (P : Program) (g : Nat) (lb : Array Value) (encs : α → Array Value) (Ab : World → World → Prop) (Kp : ρ → ρ → World → World → Prop) (Lt : ρ → World → Prop) (r0 : ρ) (Nx : List α → α → Prop) (S Sp : List α → Prop) (l : Nat) (W : World) : Prop :=
  ∀ (J Jx : List α → ρ → World → Prop), (∀ s r A B, J s r A → Ab A B → J s r B) → (∀ s r A B, Jx s r A → Ab A B → Jx s r B) → (∀ s r A, J s r A → Lt r A) →
    (∀ pre r x W1, Nx pre x → J pre r W1 → YieldAt Fence.wide 0 P l (encs x) W1 fun e W' =>
      (e = .returned (.bool true) ∧ ∃ r', J (pre ++ [x]) r' W' ∧ Kp r r' W1 W') ∨ (e = .returned (.bool false) ∧ ∃ r', Jx (pre ++ [x]) r' W')) →
    J [] r0 W →
    CallsIn Fence.wide 0 P g (#[.func (.yield l) #[] #[]] ++ lb) W fun e W' => (∃ v, e = .returned v) ∧ ((∃ xs r, S xs ∧ J xs r W') ∨ (∃ pre r, Sp pre ∧ Jx pre r W'))

/-- How a round's body may be left. -/
def bodyEnds {α ρ : Type} (Kp : ρ → ρ → World → World → Prop) (I : List α → ρ → World → Prop) (Ix : Code → List α → ρ → World → Prop) (xs : List α) (r : ρ) (W : World) : Exit → Act → World → Prop
  | .normal, _, W' => KeepsOthers W W' ∧ ∃ r', Kp r r' W W' ∧ I xs r' W'
  | .ret, _, W' => KeepsOthers W W' ∧ ∃ r', Ix .ret xs r' W'
  | .exit id, _, W' => KeepsOthers W W' ∧ ∃ r', Ix (.exit id) xs r' W'
  | .goto t, _, W' => KeepsOthers W W' ∧ ∃ r', Ix (.goto t) xs r' W'
  | .panic _, _, _ => False
  | .outgrown, _, _ => False

/-- The caller's invariant abides the loop's own book-keeping: blocks that hold no cells, from B on. -/
def Books {β ρ : Type} (B : Nat) (I : β → ρ → World → Prop) : Prop :=
  (∀ s r W o, I s r W → I s r (W.alloc o)) ∧ (∀ s r W l o o', I s r W → B ≤ l → W.heap[l]? = some o → o.isCells = false → I s r (W.putObj l o'))

set_option maxHeartbeats 1000000 in
theorem law {α ρ : Type} {P : Program} {g : Operand} {ps : Array Tmp} {assign body : Code} {Q : Exit → Act → World → Prop} {a : Act} {w : World}
    {gf : Nat} {lb : Array Value} (hg : a.eval g = .func (.func gf) #[] lb) (eg : ∀ args w, (callFunc gf args).run P w = .ok (.enter gf args) w)
    {encs : α → Array Value} {Ab : World → World → Prop} {Kp : ρ → ρ → World → World → Prop} {Lt : ρ → World → Prop} {r0 : ρ} {Nx : List α → α → Prop} {S Sp : List α → Prop}
    (hit : ∀ (l : Nat) (W1 : World), w.heap.size < l → Below w.heap.size w W1 → W1.heap.size = w.heap.size + 2 → Iter P gf lb encs Ab Kp Lt r0 Nx S Sp l W1)
    (hAb : ∀ (A B : World), Ab A B → ∀ (k : Nat) (o : Obj), w.heap.size ≤ k → A.heap[k]? = some o → o.isCells = false → B.heap[k]? = some o)
    (hKt : ∀ {r1 r2 r3 : ρ} {A B C : World}, Kp r1 r2 A B → Kp r2 r3 B C → Kp r1 r3 A C)
    (hKb : ∀ (r : ρ) (W : World) (l : Nat) (o o' : Obj), w.heap.size ≤ l → W.heap[l]? = some o → o.isCells = false → Kp r r W (W.putObj l o'))
    (hps : ∀ x, (encs x).size = ps.size)
    (I : List α → ρ → World → Prop) (Ix : Code → List α → ρ → World → Prop)
    (hIa : ∀ s r A B, I s r A → Ab A B → I s r B) (hIxa : ∀ c s r A B, Ix c s r A → Ab A B → Ix c s r B) (hLt : ∀ s r A, I s r A → Lt r A)
    (hI : Books w.heap.size I) (hIx : ∀ c, Books w.heap.size (Ix c)) (h0 : I [] r0 w) (a₁ : α → Act)
    (hassign : ∀ (l : Nat) (x : α) (W : World) (K : Act → World → Prop), K (a₁ x) W →
      assign.wpIn (Fence.wide.inRound l) 0 P (Exit.then K (fun _ _ _ => False)) { tmps := (ps.zip (encs x)).foldl (fun t (p, v) => t.setIfInBounds p v) a.tmps, defers := [] } W)
    (hbody : ∀ (l : Nat) (pre : List α) (r : ρ) (x : α) (W : World), Nx pre x → I pre r W → body.wpIn (Fence.wide.inRound l) 0 P (bodyEnds Kp I Ix (pre ++ [x]) r W) (a₁ x) W)
    (hdone : ∀ (D : Nat) (xs : List α) (r : ρ) (W : World), w.heap.size ≤ D → S xs → I xs r W → W.heap[D]? = some (.deferred (some [])) → Q .normal { a with defers := { target := .collected D, args := #[] } :: a.defers } W)
    (hstop : ∀ (D : Nat) (c : Code) (pre : List α) (r : ρ) (W : World), w.heap.size ≤ D → Sp pre → Ix c pre r W → W.heap[D]? = some (.deferred (some [])) → c.wpIn Fence.wide 0 P Q { a with defers := { target := .collected D, args := #[] } :: a.defers } W) :
    (Code.rangeFunc g ps assign body).wpIn Fence.wide 0 P Q a w := by
  refine wpIn_rangeFunc ?_
  intro fn _
  obtain ⟨rec, hrec⟩ : ∃ rec : LoopState → Option Code → Loop, rec = fun st pe => { state := st, pending := pe, fn, tmps := a.tmps, params := ps, assign, body, defers := w.heap.size } := ⟨_, rfl⟩
  have hst : ∀ st pe, (rec st pe).state = st := fun st pe => by rw [hrec]
  have hpe : ∀ st pe, (rec st pe).pending = pe := fun st pe => by rw [hrec]
  have hset : ∀ st pe st' pe', ({ rec st pe with state := st', pending := pe' } : Loop) = rec st' pe' := fun st pe st' pe' => by rw [hrec]
  have hset1 : ∀ st pe st', ({ rec st pe with state := st' } : Loop) = rec st' pe := fun st pe st' => by rw [hrec]
  let D := w.heap.size
  let l := w.heap.size + 1
  -- the two blocks of book-keeping
  let Bk : Loop → World → Prop := fun r W => W.heap[l]? = some (.loop r) ∧ W.heap[D]? = some (.deferred (some []))
  have hBkA : ∀ r A B, Bk r A → Ab A B → Bk r B := fun r A B h hab => ⟨hAb A B hab _ _ (by omega) h.1 rfl, hAb A B hab _ _ (by omega) h.2 rfl⟩
  have hBkP : ∀ r r' A, Bk r A → Bk r' (A.putObj l (.loop r')) := fun r r' A h =>
    ⟨World.putObj_heap_same (Array.getElem?_eq_some_iff.1 h.1).1, (World.putObj_heap_other (by show w.heap.size ≠ w.heap.size + 1; omega)).trans h.2⟩
  let W1 := (w.alloc (.deferred (some []))).alloc (.loop (rec .ready none))
  have hBk1 : Bk (rec .ready none) W1 := by
    refine ⟨?_, ?_⟩
    · have := World.alloc_heap_new (w.alloc (.deferred (some []))) (.loop (rec .ready none))
      rw [World.size_alloc] at this; exact this
    · exact (Below.heap_alloc _ _ _ (by simp [D])).trans (World.alloc_heap_new w _)
  have hI1 : I [] r0 W1 := hI.1 _ _ _ _ (hI.1 _ _ _ _ h0)
  have hb1 : Below w.heap.size w W1 := ((Below.refl _ w).alloc (Nat.le_refl _) _).alloc (by simp) _
  refine ⟨l, [{ target := .collected D, args := #[] }], W1, { target := .fn (.func gf) lb, args := #[.func (.yield l) #[] #[]] }, W1, gf,
    #[.func (.yield l) #[] #[]] ++ lb, W1, ?_, ?_, fun _ _ => trivial, ?_, fun h => by simp [Fence.wide] at h, ?_⟩
  · have := run_enterLoop_outer (P := P) (w := w) fn a.tmps ps assign body
    rw [show (Fence.wide).round = none from rfl]
    simp only [W1, l, D, hrec]; exact this
  · simp only [resolve, hg]
    simp [go_sem]
  · simp [invoke, go_sem, eg]
  · refine (hit l W1 (Nat.lt_succ_self _) hb1 (by simp [W1]) (fun pre r W => I pre r W ∧ Bk (rec .ready none) W) (fun pre r W => ∃ c, Ix c pre r W ∧ Bk (rec .done (some c)) W)
      (fun s r A B h hab => ⟨hIa s r A B h.1 hab, hBkA _ _ _ h.2 hab⟩) (fun s r A B ⟨c, h1, h2⟩ hab => ⟨c, hIxa c s r A B h1 hab, hBkA _ _ _ h2 hab⟩) (fun s r A h => hLt s r A h.1) ?_ ⟨hI1, hBk1⟩).mono ?_
    · rintro pre r x W hnx ⟨hi, hbk⟩
      have hy := run_yield (P := P) (args := encs x) hbk.1 (by rw [hrec]; exact hps x)
      rw [show (rec .ready none).fn = fn by rw [hrec], show (rec .ready none).params = ps by rw [hrec], show (rec .ready none).tmps = a.tmps by rw [hrec], show (rec .ready none).assign = assign by rw [hrec],
        show (rec .ready none).body = body by rw [hrec]] at hy
      have hbr := run_beginRound (P := P) hbk.1 (hst _ _)
      rw [hset1] at hbr
      refine ⟨fn, _, assign, body, hy, roundIn_of_wpIn trivial (hassign _ x W _ ⟨_, hbr, ?_⟩)⟩
      have hbk2 : Bk (rec .busy none) (W.putObj l (.loop (rec .busy none))) := hBkP _ _ _ hbk
      refine wpIn_mono (hbody _ pre r x _ hnx (hI.2 _ _ _ _ _ _ hi (by show w.heap.size ≤ w.heap.size + 1; omega) hbk.1 rfl)) ?_
      have hw2 : Kp r r W (W.putObj l (.loop (rec .busy none))) := hKb _ _ _ _ _ (by show w.heap.size ≤ w.heap.size + 1; omega) hbk.1 rfl
      have fin : ∀ (jump : Option Code) (W3 : World), KeepsOthers (W.putObj l (.loop (rec .busy none))) W3 →
          Bk (rec .busy none) W3 ∧ (Instr.endRound l jump).run P W3 = .ok (.bool jump.isNone) (W3.putObj l (.loop (rec (if jump.isNone then .ready else .done) jump))) := fun jump W3 hk3 => by
        have hb3 : Bk (rec .busy none) W3 := ⟨hk3.same _ _ hbk2.1 rfl, hk3.same _ _ hbk2.2 rfl⟩
        have := run_endRound (P := P) jump hb3.1
        rw [hset] at this
        exact ⟨hb3, this⟩
      have leave : ∀ (c : Code) (W3 : World), KeepsOthers (W.putObj l (.loop (rec .busy none))) W3 → (∃ r', Ix c (pre ++ [x]) r' W3) →
          ∃ v w', (Instr.endRound l (some c)).run P W3 = .ok v w' ∧ ((Ending.returned v = .returned (.bool true) ∧ ∃ r', (I (pre ++ [x]) r' w' ∧ Bk (rec .ready none) w') ∧ Kp r r' W w') ∨ (Ending.returned v = .returned (.bool false) ∧ ∃ r', ∃ c, Ix c (pre ++ [x]) r' w' ∧ Bk (rec .done (some c)) w')) := fun c W3 hk3 ⟨r3, hi3⟩ => by
        obtain ⟨hb3, hr⟩ := fin (some c) W3 hk3
        exact ⟨_, _, hr, .inr ⟨rfl, r3, c, (hIx c).2 _ _ _ _ _ _ hi3 (by show w.heap.size ≤ w.heap.size + 1; omega) hb3.1 rfl, hBkP _ _ _ hb3⟩⟩
      intro e a3 W3 hp
      cases e with
      | normal =>
        obtain ⟨hk3, r3, hkp3, hi3⟩ := hp
        obtain ⟨hb3, hr⟩ := fin none W3 hk3
        exact ⟨_, _, hr, .inl ⟨rfl, r3, ⟨hI.2 _ _ _ _ _ _ hi3 (by show w.heap.size ≤ w.heap.size + 1; omega) hb3.1 rfl, hBkP _ _ _ hb3⟩, hKt (hKt hw2 hkp3) (hKb _ _ _ _ _ (by show w.heap.size ≤ w.heap.size + 1; omega) hb3.1 rfl)⟩⟩
      | ret => exact leave .ret W3 hp.1 hp.2
      | exit id => exact leave (.exit id) W3 hp.1 hp.2
      | goto t => exact leave (.goto t) W3 hp.1 hp.2
      | panic ch => exact hp.elim
      | outgrown => exact hp.elim
    · rintro e W2 ⟨⟨v, rfl⟩, (⟨xs, r, hS, hi, hbk⟩ | ⟨pre, r, hSp, c, hi, hbk⟩)⟩
      · refine ⟨none, _, by have := run_endLoop (P := P) hbk.1 (by rw [hst]; simp); rw [hpe] at this; exact this, hdone D xs r _ (Nat.le_refl _) hS (hI.2 _ _ _ _ _ _ hi (by show w.heap.size ≤ w.heap.size + 1; omega) hbk.1 rfl) ?_⟩
        exact (World.putObj_heap_other (by show w.heap.size ≠ w.heap.size + 1; omega)).trans hbk.2
      · refine ⟨some c, _, by have := run_endLoop (P := P) hbk.1 (by rw [hst]; simp); rw [hpe] at this; exact this, hstop D c pre r _ (Nat.le_refl _) hSp ((hIx c).2 _ _ _ _ _ _ hi (by show w.heap.size ≤ w.heap.size + 1; omega) hbk.1 rfl) ?_⟩
        exact (World.putObj_heap_other (by show w.heap.size ≠ w.heap.size + 1; omega)).trans hbk.2

end Go.Proofs.Yteilkigdlkeiaaa.Rg

namespace Go.Proofs.Yteilkigdlkeiaaa.Ra
set_option linter.unusedVariables false
set_option linter.unusedSimpArgs false
open Go Go.RowKit

open Go.Proofs.Yteilkigdlkeiaaa.Rg (Iter bodyEnds Books)

set_option maxHeartbeats 1000000 in
theorem law {α ρ : Type} {P : Program} {g : Operand} {ps : Array Tmp} {assign body : Code} {Q : Exit → Act → World → Prop} {a : Act} {w : World}
    {gf : Nat} {lb : Array Value} (hg : a.eval g = .func (.func gf) #[] lb) (eg : ∀ args w, (callFunc gf args).run P w = .ok (.enter gf args) w)
    {encs : α → Array Value} {Ab : World → World → Prop} {Kp : ρ → ρ → World → World → Prop} {Lt : ρ → World → Prop} {r0 : ρ} {Nx : List α → α → Prop} {S Sp : List α → Prop}
    (hit : ∀ (l : Nat) (W1 : World), w.heap.size < l → Below w.heap.size w W1 → W1.heap.size = w.heap.size + 2 → Iter P gf lb encs Ab Kp Lt r0 Nx S Sp l W1)
    (hAb : ∀ (A B : World), Ab A B → ∀ (k : Nat) (o : Obj), w.heap.size ≤ k → A.heap[k]? = some o → o.isCells = false → B.heap[k]? = some o)
    (hKt : ∀ {r1 r2 r3 : ρ} {A B C : World}, Kp r1 r2 A B → Kp r2 r3 B C → Kp r1 r3 A C)
    (hKb : ∀ (r : ρ) (W : World) (l : Nat) (o o' : Obj), w.heap.size ≤ l → W.heap[l]? = some o → o.isCells = false → Kp r r W (W.putObj l o'))
    (hps : ∀ x, (encs x).size = ps.size)
    (I : List α → ρ → World → Prop) (Ix : Code → List α → ρ → World → Prop)
    (hIa : ∀ s r A B, I s r A → Ab A B → I s r B) (hIxa : ∀ c s r A B, Ix c s r A → Ab A B → Ix c s r B) (hLt : ∀ s r A, I s r A → Lt r A)
    (hI : Books w.heap.size I) (hIx : ∀ c, Books w.heap.size (Ix c)) (h0 : I [] r0 w) (a₁ : α → Nat → Act) (ob : α → Obj) (hKa : ∀ (r : ρ) (W : World) (o : Obj), Kp r r W (W.alloc o))
    (hassign : ∀ (l : Nat) (x : α) (W : World) (K : Act → World → Prop), K (a₁ x W.heap.size) (W.alloc (ob x)) →
      assign.wpIn (Fence.wide.inRound l) 0 P (Exit.then K (fun _ _ _ => False)) { tmps := (ps.zip (encs x)).foldl (fun t (p, v) => t.setIfInBounds p v) a.tmps, defers := [] } W)
    (hbody : ∀ (l : Nat) (pre : List α) (r : ρ) (x : α) (b : Nat) (W W0 : World), Nx pre x → I pre r W → w.heap.size ≤ b → W.heap[b]? = some (ob x) → W0.heap.size = b → I pre r W0 → body.wpIn (Fence.wide.inRound l) 0 P (bodyEnds Kp I Ix (pre ++ [x]) r W) (a₁ x b) W)
    (hdone : ∀ (D : Nat) (xs : List α) (r : ρ) (W : World), w.heap.size ≤ D → S xs → I xs r W → W.heap[D]? = some (.deferred (some [])) → Q .normal { a with defers := { target := .collected D, args := #[] } :: a.defers } W)
    (hstop : ∀ (D : Nat) (c : Code) (pre : List α) (r : ρ) (W : World), w.heap.size ≤ D → Sp pre → Ix c pre r W → W.heap[D]? = some (.deferred (some [])) → c.wpIn Fence.wide 0 P Q { a with defers := { target := .collected D, args := #[] } :: a.defers } W) :
    (Code.rangeFunc g ps assign body).wpIn Fence.wide 0 P Q a w := by
  refine wpIn_rangeFunc ?_
  intro fn _
  obtain ⟨rec, hrec⟩ : ∃ rec : LoopState → Option Code → Loop, rec = fun st pe => { state := st, pending := pe, fn, tmps := a.tmps, params := ps, assign, body, defers := w.heap.size } := ⟨_, rfl⟩
  have hst : ∀ st pe, (rec st pe).state = st := fun st pe => by rw [hrec]
  have hpe : ∀ st pe, (rec st pe).pending = pe := fun st pe => by rw [hrec]
  have hset : ∀ st pe st' pe', ({ rec st pe with state := st', pending := pe' } : Loop) = rec st' pe' := fun st pe st' pe' => by rw [hrec]
  have hset1 : ∀ st pe st', ({ rec st pe with state := st' } : Loop) = rec st' pe := fun st pe st' => by rw [hrec]
  let D := w.heap.size
  let l := w.heap.size + 1
  -- the two blocks of book-keeping
  let Bk : Loop → World → Prop := fun r W => W.heap[l]? = some (.loop r) ∧ W.heap[D]? = some (.deferred (some []))
  have hBkA : ∀ r A B, Bk r A → Ab A B → Bk r B := fun r A B h hab => ⟨hAb A B hab _ _ (by omega) h.1 rfl, hAb A B hab _ _ (by omega) h.2 rfl⟩
  have hBkP : ∀ r r' A, Bk r A → Bk r' (A.putObj l (.loop r')) := fun r r' A h =>
    ⟨World.putObj_heap_same (Array.getElem?_eq_some_iff.1 h.1).1, (World.putObj_heap_other (by show w.heap.size ≠ w.heap.size + 1; omega)).trans h.2⟩
  let W1 := (w.alloc (.deferred (some []))).alloc (.loop (rec .ready none))
  have hBk1 : Bk (rec .ready none) W1 := by
    refine ⟨?_, ?_⟩
    · have := World.alloc_heap_new (w.alloc (.deferred (some []))) (.loop (rec .ready none))
      rw [World.size_alloc] at this; exact this
    · exact (Below.heap_alloc _ _ _ (by simp [D])).trans (World.alloc_heap_new w _)
  have hI1 : I [] r0 W1 := hI.1 _ _ _ _ (hI.1 _ _ _ _ h0)
  have hb1 : Below w.heap.size w W1 := ((Below.refl _ w).alloc (Nat.le_refl _) _).alloc (by simp) _
  refine ⟨l, [{ target := .collected D, args := #[] }], W1, { target := .fn (.func gf) lb, args := #[.func (.yield l) #[] #[]] }, W1, gf,
    #[.func (.yield l) #[] #[]] ++ lb, W1, ?_, ?_, fun _ _ => trivial, ?_, fun h => by simp [Fence.wide] at h, ?_⟩
  · have := run_enterLoop_outer (P := P) (w := w) fn a.tmps ps assign body
    rw [show (Fence.wide).round = none from rfl]
    simp only [W1, l, D, hrec]; exact this
  · simp only [resolve, hg]
    simp [go_sem]
  · simp [invoke, go_sem, eg]
  · refine (hit l W1 (Nat.lt_succ_self _) hb1 (by simp [W1]) (fun pre r W => I pre r W ∧ Bk (rec .ready none) W) (fun pre r W => ∃ c, Ix c pre r W ∧ Bk (rec .done (some c)) W)
      (fun s r A B h hab => ⟨hIa s r A B h.1 hab, hBkA _ _ _ h.2 hab⟩) (fun s r A B ⟨c, h1, h2⟩ hab => ⟨c, hIxa c s r A B h1 hab, hBkA _ _ _ h2 hab⟩) (fun s r A h => hLt s r A h.1) ?_ ⟨hI1, hBk1⟩).mono ?_
    · rintro pre r x W hnx ⟨hi, hbk⟩
      have hy := run_yield (P := P) (args := encs x) hbk.1 (by rw [hrec]; exact hps x)
      rw [show (rec .ready none).fn = fn by rw [hrec], show (rec .ready none).params = ps by rw [hrec], show (rec .ready none).tmps = a.tmps by rw [hrec], show (rec .ready none).assign = assign by rw [hrec],
        show (rec .ready none).body = body by rw [hrec]] at hy
      have hlt1 : l < W.heap.size := (Array.getElem?_eq_some_iff.1 hbk.1).1
      have hbkA1 : Bk (rec .ready none) (W.alloc (ob x)) := ⟨(Below.heap_alloc _ _ _ hlt1).trans hbk.1, (Below.heap_alloc _ _ _ (Array.getElem?_eq_some_iff.1 hbk.2).1).trans hbk.2⟩
      have hbr := run_beginRound (P := P) hbkA1.1 (hst _ _)
      rw [hset1] at hbr
      refine ⟨fn, _, assign, body, hy, roundIn_of_wpIn trivial (hassign _ x W _ ⟨_, hbr, ?_⟩)⟩
      have hbk2 : Bk (rec .busy none) ((W.alloc (ob x)).putObj l (.loop (rec .busy none))) := hBkP _ _ _ hbkA1
      refine wpIn_mono (hbody _ pre r x W.heap.size _ W hnx (hI.2 _ _ _ _ _ _ (hI.1 _ _ _ (ob x) hi) (by show w.heap.size ≤ w.heap.size + 1; omega) hbkA1.1 rfl) (by have : w.heap.size + 1 < W.heap.size := hlt1; omega) ((World.putObj_heap_other (by show W.heap.size ≠ l; omega)).trans (World.alloc_heap_new W _)) rfl hi) ?_
      have hw2 : Kp r r W ((W.alloc (ob x)).putObj l (.loop (rec .busy none))) := hKt (hKa r W (ob x)) (hKb _ _ _ _ _ (by show w.heap.size ≤ w.heap.size + 1; omega) hbkA1.1 rfl)
      have fin : ∀ (jump : Option Code) (W3 : World), KeepsOthers ((W.alloc (ob x)).putObj l (.loop (rec .busy none))) W3 →
          Bk (rec .busy none) W3 ∧ (Instr.endRound l jump).run P W3 = .ok (.bool jump.isNone) (W3.putObj l (.loop (rec (if jump.isNone then .ready else .done) jump))) := fun jump W3 hk3 => by
        have hb3 : Bk (rec .busy none) W3 := ⟨hk3.same _ _ hbk2.1 rfl, hk3.same _ _ hbk2.2 rfl⟩
        have := run_endRound (P := P) jump hb3.1
        rw [hset] at this
        exact ⟨hb3, this⟩
      have leave : ∀ (c : Code) (W3 : World), KeepsOthers ((W.alloc (ob x)).putObj l (.loop (rec .busy none))) W3 → (∃ r', Ix c (pre ++ [x]) r' W3) →
          ∃ v w', (Instr.endRound l (some c)).run P W3 = .ok v w' ∧ ((Ending.returned v = .returned (.bool true) ∧ ∃ r', (I (pre ++ [x]) r' w' ∧ Bk (rec .ready none) w') ∧ Kp r r' W w') ∨ (Ending.returned v = .returned (.bool false) ∧ ∃ r', ∃ c, Ix c (pre ++ [x]) r' w' ∧ Bk (rec .done (some c)) w')) := fun c W3 hk3 ⟨r3, hi3⟩ => by
        obtain ⟨hb3, hr⟩ := fin (some c) W3 hk3
        exact ⟨_, _, hr, .inr ⟨rfl, r3, c, (hIx c).2 _ _ _ _ _ _ hi3 (by show w.heap.size ≤ w.heap.size + 1; omega) hb3.1 rfl, hBkP _ _ _ hb3⟩⟩
      intro e a3 W3 hp
      cases e with
      | normal =>
        obtain ⟨hk3, r3, hkp3, hi3⟩ := hp
        obtain ⟨hb3, hr⟩ := fin none W3 hk3
        exact ⟨_, _, hr, .inl ⟨rfl, r3, ⟨hI.2 _ _ _ _ _ _ hi3 (by show w.heap.size ≤ w.heap.size + 1; omega) hb3.1 rfl, hBkP _ _ _ hb3⟩, hKt (hKt hw2 hkp3) (hKb _ _ _ _ _ (by show w.heap.size ≤ w.heap.size + 1; omega) hb3.1 rfl)⟩⟩
      | ret => exact leave .ret W3 hp.1 hp.2
      | exit id => exact leave (.exit id) W3 hp.1 hp.2
      | goto t => exact leave (.goto t) W3 hp.1 hp.2
      | panic ch => exact hp.elim
      | outgrown => exact hp.elim
    · rintro e W2 ⟨⟨v, rfl⟩, (⟨xs, r, hS, hi, hbk⟩ | ⟨pre, r, hSp, c, hi, hbk⟩)⟩
      · refine ⟨none, _, by have := run_endLoop (P := P) hbk.1 (by rw [hst]; simp); rw [hpe] at this; exact this, hdone D xs r _ (Nat.le_refl _) hS (hI.2 _ _ _ _ _ _ hi (by show w.heap.size ≤ w.heap.size + 1; omega) hbk.1 rfl) ?_⟩
        exact (World.putObj_heap_other (by show w.heap.size ≠ w.heap.size + 1; omega)).trans hbk.2
      · refine ⟨some c, _, by have := run_endLoop (P := P) hbk.1 (by rw [hst]; simp); rw [hpe] at this; exact this, hstop D c pre r _ (Nat.le_refl _) hSp ((hIx c).2 _ _ _ _ _ _ hi (by show w.heap.size ≤ w.heap.size + 1; omega) hbk.1 rfl) ?_⟩
        exact (World.putObj_heap_other (by show w.heap.size ≠ w.heap.size + 1; omega)).trans hbk.2

end Go.Proofs.Yteilkigdlkeiaaa.Ra

namespace Go.Proofs.Yteilkigdlkeiaaa.Lf
set_option linter.unusedVariables false
set_option linter.unusedSimpArgs false
open Go Go.RowKit

/-- the lines after events as long as these are possible, with their indices -/
def after : Nat → Ln → List Ev → List (Int × Ln)
  | _, _, [] => []
  | i, l, e :: es => match step l e with
    | none => []
    | some n => ((i : Int), n) :: after (i + 1) n es
def items (L : List Ev) : List (Int × Ln) := (-1, firstL) :: after 0 firstL L

/-- a block of cells -/
def Blk (W : World) (b : Nat) (c : Array Value) (t : TypeId) : Prop := W.heap[b]? = some (.cells c t (0, 0))
theorem Blk.lt {W : World} {b : Nat} {c : Array Value} {t : TypeId} (h : Blk W b c t) : b < W.heap.size := (Array.getElem?_eq_some_iff.1 h).1
theorem Blk.cell {W : World} {b : Nat} {c : Array Value} {t : TypeId} (h : Blk W b c t) (i : Nat) {v : Value} (hv : c[i]? = some v) : W.cell? ⟨b, i, none⟩ = some v := by simp [World.cell?, show W.heap[b]? = _ from h, hv]
theorem Blk.frozen {W : World} {b : Nat} {c : Array Value} {t : TypeId} (h : Blk W b c t) (i : Nat) : W.frozen? ⟨b, i, none⟩ = false := by simp [World.frozen?, show W.heap[b]? = _ from h]
theorem Blk.new (W : World) (c : Array Value) (t : TypeId) : Blk (W.alloc (.cells c t)) W.heap.size c t := World.alloc_heap_new W _
theorem Blk.alloc {W : World} {b : Nat} {c : Array Value} {t : TypeId} (h : Blk W b c t) (o : Obj) : Blk (W.alloc o) b c t := (Below.heap_alloc _ _ _ h.lt).trans h
theorem Blk.below {W W' : World} {b n : Nat} {c : Array Value} {t : TypeId} (h : Blk W b c t) (hB : Below n W W') (hn : b < n) : Blk W' b c t := (hB.block b hn).trans h
theorem Blk.other {W : World} {b b' : Nat} {c : Array Value} {t : TypeId} (h : Blk W b c t) (hne : b ≠ b') (i : Nat) (u : Value) : Blk (W.setCell ⟨b', i, none⟩ u) b c t := by
  show (W.setCell ⟨b', i, none⟩ u).heap[b]? = _
  simp only [World.setCell]
  rw [Array.getElem?_modify, if_neg (by show ¬ b' = b; omega)]
  exact h
theorem Blk.set {W : World} {b : Nat} {c : Array Value} {t : TypeId} (h : Blk W b c t) (i : Nat) (u : Value) : Blk (W.setCell ⟨b, i, none⟩ u) b (c.setIfInBounds i u) t := by
  show (W.setCell ⟨b, i, none⟩ u).heap[b]? = _
  simp only [World.setCell]
  rw [Array.getElem?_modify, if_pos rfl, show W.heap[b]? = _ from h]
  rfl

/-- the iterator's steps keep every block but its own -/
structure Ab (B0 : Nat) (A A' : World) : Prop where
  size : A.heap.size ≤ A'.heap.size
  os : A'.os = A.os
  tape : A'.tape = A.tape
  output : A'.output = A.output
  block : ∀ k o, A.heap[k]? = some o → (k = B0 → ∀ c f, o ≠ .cells c 26 f) → A'.heap[k]? = some o
theorem Ab.refl (B0 : Nat) (A : World) : Ab B0 A A := ⟨Nat.le_refl _, rfl, rfl, rfl, fun _ _ h _ => h⟩
theorem Ab.trans {B0 : Nat} {A B C : World} (h1 : Ab B0 A B) (h2 : Ab B0 B C) : Ab B0 A C :=
  ⟨Nat.le_trans h1.size h2.size, h2.os.trans h1.os, h2.tape.trans h1.tape, h2.output.trans h1.output, fun k o hk hc => h2.block k o (h1.block k o hk hc) hc⟩
theorem Ab.below {B0 : Nat} {A B : World} (h : Below A.heap.size A B) : Ab B0 A B :=
  ⟨h.size, h.os, h.tape, h.output, fun k o hk _ => (h.block k (Array.getElem?_eq_some_iff.1 hk).1).trans hk⟩
theorem Ab.alloc (B0 : Nat) (A : World) (o : Obj) : Ab B0 A (A.alloc o) := Ab.below ((Below.refl _ A).alloc (Nat.le_refl _) o)
theorem Ab.setCell {B0 : Nat} {A : World} {c : Array Value} (hb : Blk A B0 c 26) (i : Nat) (v : Value) : Ab B0 A (A.setCell ⟨B0, i, none⟩ v) := by
  refine ⟨by simp [World.setCell], rfl, rfl, rfl, fun k o hk hc => ?_⟩
  simp only [World.setCell]
  by_cases hbk : B0 = k
  · subst hbk
    rw [show A.heap[B0]? = _ from hb] at hk
    cases hk
    exact absurd rfl (hc rfl _ _)
  · rw [Array.getElem?_modify, if_neg hbk]; exact hk
theorem Ab.blk {B0 : Nat} {A A' : World} (h : Ab B0 A A') {b : Nat} {c : Array Value} {t : TypeId} (hb : Blk A b c t) (hne : b ≠ B0 ∨ t ≠ 26) : Blk A' b c t := h.block b _ hb fun e c' f e' => by rcases hne with h | h; exact h e; cases e'; exact h rfl

/-- a round keeps every block but the caller's: those of F, and rows of stays that are not older than N0 -/
structure Kp (F : Nat → Prop) (N0 : Nat) (r r' : Option Nat) (A A' : World) : Prop where
  size : A.heap.size ≤ A'.heap.size
  block : ∀ k c t f, A.heap[k]? = some (.cells c t f) → ¬ F k → (k < N0 ∨ t ≠ 62) → A'.heap[k]? = some (.cells c t f)
  mark : r' = r
theorem Kp.trans {F : Nat → Prop} {N0 : Nat} {r1 r2 r3 : Option Nat} {A B C : World} (h1 : Kp F N0 r1 r2 A B) (h2 : Kp F N0 r2 r3 B C) : Kp F N0 r1 r3 A C :=
  ⟨Nat.le_trans h1.size h2.size, fun k c t f hk hF hr => h2.block k c t f (h1.block k c t f hk hF hr) hF hr, h2.mark.trans h1.mark⟩
theorem Kp.book {F : Nat → Prop} {N0 : Nat} (r : Option Nat) (W : World) (l : Nat) (o o' : Obj) (hl : W.heap[l]? = some o) (ho : o.isCells = false) : Kp F N0 r r W (W.putObj l o') := by
  refine ⟨by simp, fun k c t f hk _ _ => ?_, rfl⟩
  by_cases e : k = l
  · subst e; rw [hl] at hk; cases hk; cases ho
  · rw [World.putObj_heap_other e]; exact hk
theorem Kp.blk {F : Nat → Prop} {N0 : Nat} {r r' : Option Nat} {A A' : World} (h : Kp F N0 r r' A A') {b : Nat} {c : Array Value} {t : TypeId} (hb : Blk A b c t) (hF : ¬ F b) (hr : b < N0 ∨ t ≠ 62) : Blk A' b c t := h.block b _ _ _ hb hF hr
theorem Kp.below {F : Nat → Prop} {N0 : Nat} (r : Option Nat) {A A' : World} (h : Below A.heap.size A A') : Kp F N0 r r A A' :=
  ⟨h.size, fun k c t f hk _ _ => (h.block k (Array.getElem?_eq_some_iff.1 hk).1).trans hk, rfl⟩
theorem Kp.alloc {F : Nat → Prop} {N0 : Nat} (r : Option Nat) (W : World) (o : Obj) : Kp F N0 r r W (W.alloc o) := Kp.below r ((Below.refl _ W).alloc (Nat.le_refl _) o)
theorem Kp.drew {F : Nat → Prop} {N0 : Nat} (r : Option Nat) (W : World) : Kp F N0 r r W W.drew := ⟨Nat.le_refl _, fun _ _ _ _ h _ _ => h, rfl⟩
theorem Blk.drew {W : World} {b : Nat} {c : Array Value} {t : TypeId} (h : Blk W b c t) : Blk W.drew b c t := h
theorem Kp.setCell {F : Nat → Prop} {N0 : Nat} (r : Option Nat) (W : World) (b i : Nat) (v : Value) (hb : F b) : Kp F N0 r r W (W.setCell ⟨b, i, none⟩ v) := by
  refine ⟨by simp [World.setCell], fun k c t f hk hF _ => ?_, rfl⟩
  simp only [World.setCell]
  rw [Array.getElem?_modify, if_neg (fun e : b = k => hF (e ▸ hb))]; exact hk
theorem Blk.putObj {W : World} {b : Nat} {c : Array Value} {t : TypeId} (h : Blk W b c t) {l : Nat} {o : Obj} (o' : Obj) (hl : W.heap[l]? = some o) (ho : o.isCells = false) : Blk (W.putObj l o') b c t := by
  refine (World.putObj_heap_other (fun e => ?_)).trans h
  subst e
  rw [show W.heap[b]? = _ from h] at hl; cases hl; cases ho
theorem below_ab {B0 : Nat} {w A B : World} (h : Below w.heap.size w A) (hab : Ab B0 A B) (hB : w.heap.size ≤ B0) : Below w.heap.size w B :=
  ⟨hab.os.trans h.os, hab.tape.trans h.tape, hab.output.trans h.output, Nat.le_trans h.size hab.size, fun k hk => by
    have e := h.block k hk
    have hs : w.heap[k]? = some w.heap[k] := Array.getElem?_eq_getElem hk
    rw [hab.block k w.heap[k] (e.trans hs) (fun e' => by omega), hs]⟩
theorem below_putObj {n l : Nat} {w A : World} {o' : Obj} (h : Below n w A) (hl : n ≤ l) : Below n w (A.putObj l o') :=
  ⟨h.os, h.tape, h.output, by simpa using h.size, fun k hk => (World.putObj_heap_other (by omega)).trans (h.block k hk)⟩

def Lt (r : Option Nat) (A : World) : Prop := True

end Go.Proofs.Yteilkigdlkeiaaa.Lf

namespace Go.Proofs.Yteilkigdlkeiaaa.Lf
set_option linter.unusedVariables false
set_option linter.unusedSimpArgs false
open Go Go.RowKit
attribute [local go_sem] Oper.semAt_some
theorem wide_depth : Fence.wide.depth = none := rfl
attribute [local go_sem] wide_depth

abbrev encs (x : Int × Ln) : Array Value := #[.int .i64 x.1, x.2.v]
def Nx (L : List Ev) (pre : List (Int × Ln)) (x : Int × Ln) : Prop := pre ++ [x] <+: items L

theorem Addr_add_block (a : Addr) (m : Nat) : (a.add m).block = a.block := by unfold Addr.add; split <;> rfl
/-- the events lie in cells -/
def EvsIn (W : World) (A : Option Addr) (L : List Ev) : Prop :=
  ∀ k (h : k < L.length), ∃ ad, A = some ad ∧ W.cell? (ad.add (k * 3)) = some (.int .i64 L[k].k) ∧ W.cell? ⟨(ad.add (k * 3)).block, (ad.add (k * 3)).off + 1, none⟩ = some (.int .i64 L[k].a) ∧ W.cell? ⟨(ad.add (k * 3)).block, (ad.add (k * 3)).off + 2, none⟩ = some (.int .i64 L[k].h)

theorem EvsIn.keep {W W' : World} {A : Option Addr} {L : List Ev} (h : EvsIn W A L) (hk : 0 < L.length → ∀ ad o, A = some ad → W.heap[ad.block]? = some o → o.isCells = true → W'.heap[ad.block]? = some o) : EvsIn W' A L := by
  intro k hl
  obtain ⟨ad, e, h0, h1, h2⟩ := h k hl
  have hb : W'.heap[ad.block]? = W.heap[ad.block]? := by
    obtain ⟨o, ho, hc⟩ := cells_of_cell h0
    rw [Addr_add_block] at ho
    rw [hk (by omega) ad o e ho hc, ho]
  refine ⟨ad, e, ?_, ?_, ?_⟩
  · exact (World.cell?_of_block (by rw [Addr_add_block]; exact hb)).trans h0
  · exact (World.cell?_of_block (by show W'.heap[(ad.add (k * 3)).block]? = W.heap[(ad.add (k * 3)).block]?; rw [Addr_add_block]; exact hb)).trans h1
  · exact (World.cell?_of_block (by show W'.heap[(ad.add (k * 3)).block]? = W.heap[(ad.add (k * 3)).block]?; rw [Addr_add_block]; exact hb)).trans h2
theorem EvsIn.lt {W : World} {A : Option Addr} {L : List Ev} (h : EvsIn W A L) (hne : 0 < L.length) : ∀ ad, A = some ad → ad.block < W.heap.size := by
  intro ad e
  obtain ⟨ad', e', h0, _⟩ := h 0 hne
  rw [e] at e'; cases e'
  have := block_lt_of_cell h0
  rw [Addr_add_block] at this; exact this
theorem EvsIn.ab {B0 : Nat} {W W' : World} {A : Option Addr} {L : List Ev} (h : EvsIn W A L) (hab : Ab B0 W W') (hne : ∀ ad, A = some ad → ad.block < W.heap.size → ad.block ≠ B0) : EvsIn W' A L :=
  h.keep fun _ ad o e ho _ => hab.block _ _ ho fun e' => absurd e' (hne ad e (Array.getElem?_eq_some_iff.1 ho).1)
theorem EvsIn.kp {F : Nat → Prop} {N0 : Nat} {r r' : Option Nat} {W W' : World} {A : Option Addr} {L : List Ev} (h : EvsIn W A L) (hk : Kp F N0 r r' W W') (hF : 0 < L.length → ∀ ad, A = some ad → ¬ F ad.block ∧ ad.block < N0) : EvsIn W' A L :=
  h.keep fun hl ad o e ho hc => by
    cases o <;> first | exact hk.block _ _ _ _ ho (hF hl ad e).1 (.inl (hF hl ad e).2) | cases hc
theorem EvsIn.below {m : Nat} {W W' : World} {A : Option Addr} {L : List Ev} (h : EvsIn W A L) (hb : Below m W W') (hm : W.heap.size ≤ m) : EvsIn W' A L :=
  h.keep fun _ ad o e ho _ => (hb.block _ (Nat.lt_of_lt_of_le (Array.getElem?_eq_some_iff.1 ho).1 hm)).trans ho
theorem EvsIn.nil (W : World) (A : Option Addr) : EvsIn W A [] := fun k h => absurd h (by simp)

theorem line_cells {W : World} {b : Nat} {t : TypeId} {st ho ep si : Int} (h : Blk W b (lineCells ⟨st, ho, ep, si⟩) t) :
    W.cell? ⟨b, 0, none⟩ = some (.int .i64 st) ∧ W.cell? ⟨b, 1, none⟩ = some (.int .i64 ho) ∧ W.cell? ⟨b, 2, none⟩ = some (.int .i64 ep) ∧ W.cell? ⟨b, 3, none⟩ = some (.int .i64 si) :=
  ⟨h.cell 0 rfl, h.cell 1 rfl, h.cell 2 rfl, h.cell 3 rfl⟩
theorem ev_cells {W : World} {b : Nat} {t : TypeId} {k a h' : Int} (h : Blk W b (evCells ⟨k, a, h'⟩) t) :
    W.cell? ⟨b, 0, none⟩ = some (.int .i64 k) ∧ W.cell? ⟨b, 1, none⟩ = some (.int .i64 a) ∧ W.cell? ⟨b, 2, none⟩ = some (.int .i64 h') :=
  ⟨h.cell 0 rfl, h.cell 1 rfl, h.cell 2 rfl⟩

theorem after_cons (i : Nat) (l : Ln) (e : Ev) (es : List Ev) {n : Ln} (h : step l e = some n) : after i l (e :: es) = ((i : Int), n) :: after (i + 1) n es := by simp [after, h]
theorem after_none (i : Nat) (l : Ln) (e : Ev) (es : List Ev) (h : step l e = none) : after i l (e :: es) = [] := by simp [after, h]

set_option maxHeartbeats 4000000 in
theorem lines1 (F : Nat → Prop) (N0 l cp : Nat) (A : Option Addr) (n c : Nat) (L : List Ev) (hn : L.length = n) (hn2 : n ≤ 140737488351232) (W : World)
    (hc : Blk W cp #[.slice A n c] 24) (hE : EvsIn W A L) (hF : ∀ k, F k → k < W.heap.size) (hFc : ¬ F cp) (hFe : 0 < L.length → ∀ ad, A = some ad → ¬ F ad.block ∧ ad.block < N0) :
    Rg.Iter Try.prog 56 #[.pointer (some ⟨cp, 0, none⟩)] encs (Ab W.heap.size) (Kp F N0) Lt none (Nx L) (fun xs => xs = items L) (fun pre => pre <+: items L) l W := by
  intro J Jx hJ hJx hLt hY h0
  have C := Lib.hid step_any
  refine callsIn_of_wp Try.func56 rfl trivial ?_ rfl
  simp only [Try.ntmps56, List.size_toArray, List.length_cons, List.length_nil, Nat.reduceAdd, Nat.reduceSub, Array.replicate_succ, Array.replicate_zero, List.push_toArray, List.append_toArray, List.nil_append, List.cons_append]
  obtain ⟨fn1, tmps1, assign1, body1, hyd1, hR1⟩ := hY [] none (-1, firstL) (W.alloc (.cells (lineCells firstL) 26)) ⟨after 0 firstL L, rfl⟩ (hJ _ _ _ _ h0 (Ab.alloc _ _ _))
  dsimp only [encs, Ln.v, firstL, lineCells] at hyd1
  gi_wp2_with fail
  refine hR1.mono ?_
  rintro e W3 (⟨rfl, r3, hJ3, hk3⟩ | ⟨rfl, r3, hJx3⟩)
  rotate_left
  · gi_wp2
    refine bodyPost_ret (results_none rfl _ _ _) rfl ?_
    exact ⟨⟨_, rfl⟩, .inr ⟨_, r3, ⟨_, rfl⟩, hJx3⟩⟩
  have b3 : Blk W3 W.heap.size (lineCells firstL) 26 := hk3.blk (Blk.new W _ _) (fun h => Nat.lt_irrefl _ (hF _ h)) (.inr (by decide))
  have c3 : Blk W3 cp #[.slice A n c] 24 := hk3.blk (hc.alloc _) hFc (.inr (by decide))
  have e3 : EvsIn W3 A L := (hE.ab (Ab.alloc W.heap.size W _) (fun ad _ h => Nat.ne_of_lt h)).kp hk3 hFe
  have cc3 := c3.cell 0 rfl
  clear hyd1 hR1 hk3 h0
  gi_wp2_with fail
  gi_loopw [15] (fun i wr => ∃ (k : Nat) (line : Ln) (pre : List (Int × Ln)) (r : Option Nat), i = .int .i64 k ∧ k ≤ n ∧ items L = pre ++ after k line (L.drop k) ∧ Blk wr W.heap.size (lineCells line) 26 ∧ EvsIn wr A L ∧ J pre r wr)
    (fun i _ => n - (intOf i).toNat)
  case atStart => exact ⟨0, firstL, _, r3, rfl, by omega, rfl, b3, e3, hJ3⟩
  case round =>
    obtain ⟨k, line, pre, r, rfl, hk, hpre, bl, eL, hj⟩ := hrel
    by_cases hlt : k < n
    · have hlt' : k < L.length := by omega
      obtain ⟨ad, rfl, d0, d1, d2⟩ := eL k hlt'
      have hab := hE.lt (by omega) ad rfl
      have hdr : L.drop k = L[k] :: L.drop (k + 1) := List.drop_eq_getElem_cons hlt'
      rw [hdr] at hpre
      clear hdr
      generalize hev : L[k] = ev at hpre d0 d1 d2
      clear hev
      obtain ⟨ek, ea, eh⟩ := ev
      obtain ⟨st, ho, ep, si⟩ := line
      have bl4 := bl.alloc (.cells #[.int .i64 ek, .int .i64 ea, .int .i64 eh] 54)
      obtain ⟨b0, b1, b2, b3⟩ := line_cells bl4
      gi_wp2_with fail
      refine ⟨trivial, callsIn_wide.2 ((C.out ⟨st, ho, ep, si⟩ ⟨ek, ea, eh⟩ _).mono ?_)⟩
      rintro e w5 ⟨rfl, hw5⟩
      have ab5 := (Ab.alloc W.heap.size wr (.cells #[.int .i64 ek, .int .i64 ea, .int .i64 eh] 54)).trans (Ab.below hw5)
      have bl5 := bl4.below hw5 bl4.lt
      clear b0 b1 b2 b3 bl4 hw5
      rcases hs : step ⟨st, ho, ep, si⟩ ⟨ek, ea, eh⟩ with _ | nl
      · rw [after_none _ _ _ _ hs] at hpre
        have hpre' := Lib.hid hpre
        clear hs hpre
        dsimp only [stepV, zeroL, Ln.v]
        gi_wp2
        refine ⟨fun f h => (by cases h), ?_⟩
        gi_wp2
        refine bodyPost_ret (results_none rfl _ _ _) rfl ?_
        exact ⟨⟨_, rfl⟩, .inl ⟨pre, r, by rw [hpre'.out, List.append_nil], hJ _ _ _ _ hj (ab5.trans (Ab.alloc _ _ _))⟩⟩
      · rw [after_cons _ _ _ _ hs] at hpre
        obtain ⟨nst, nho, nep, nsi⟩ := nl
        have hpre' := Lib.hid hpre
        clear hs hpre
        dsimp only [stepV, Ln.v]
        obtain ⟨fn1, tmps1, assign1, body1, hyd1, hR1⟩ := hY pre r ((k : Int), ⟨nst, nho, nep, nsi⟩) (w5.alloc (.cells #[.int .i64 nst, .int .i64 nho, .int .i64 nep, .int .i64 nsi] 26)) ⟨after (k + 1) ⟨nst, nho, nep, nsi⟩ (L.drop (k + 1)), by rw [hpre'.out, List.append_assoc]; rfl⟩ (hJ _ _ _ _ hj (ab5.trans (Ab.alloc _ _ _)))
        dsimp only [encs, Ln.v] at hyd1
        gi_wp2_with fail
        refine hR1.mono ?_
        rintro e W7 (⟨rfl, r7, hJ7, hk7⟩ | ⟨rfl, r7, hJx7⟩)
        rotate_left
        · gi_wp2
          refine bodyPost_ret (results_none rfl _ _ _) rfl ?_
          exact ⟨⟨_, rfl⟩, .inr ⟨_, r7, ⟨after (k + 1) ⟨nst, nho, nep, nsi⟩ (L.drop (k + 1)), by rw [hpre'.out, List.append_assoc]; rfl⟩, hJx7⟩⟩
        have n7 : Blk W7 w5.heap.size (lineCells ⟨nst, nho, nep, nsi⟩) 26 := hk7.blk (Blk.new w5 _ _) (fun h => by have := hF _ h; have := bl5.lt; omega) (.inr (by decide))
        have bl7 : Blk W7 W.heap.size (lineCells ⟨st, ho, ep, si⟩) 26 := hk7.blk (bl5.alloc _) (fun h => Nat.lt_irrefl _ (hF _ h)) (.inr (by decide))
        have e7 : EvsIn W7 (some ad) L := (eL.ab (ab5.trans (Ab.alloc W.heap.size w5 _)) (fun ad' e h => by cases e; omega)).kp hk7 hFe
        obtain ⟨b0, b1, b2, b3⟩ := line_cells n7
        have f0 := bl7.frozen 0
        have f1 := bl7.frozen 1
        have f2 := bl7.frozen 2
        have f3 := bl7.frozen 3
        obtain ⟨o0, o1, o2, o3⟩ := line_cells bl7
        clear hyd1 hR1 hk7
        gi_wp2
        go_roundw
        case rel =>
          have s7 := (((bl7.set 0 (.int .i64 nst)).set 1 (.int .i64 nho)).set 2 (.int .i64 nep)).set 3 (.int .i64 nsi)
          have a7 := (((Ab.setCell bl7 0 (.int .i64 nst)).trans (Ab.setCell (bl7.set 0 (.int .i64 nst)) 1 (.int .i64 nho))).trans (Ab.setCell ((bl7.set 0 (.int .i64 nst)).set 1 (.int .i64 nho)) 2 (.int .i64 nep))).trans (Ab.setCell (((bl7.set 0 (.int .i64 nst)).set 1 (.int .i64 nho)).set 2 (.int .i64 nep)) 3 (.int .i64 nsi))
          refine ⟨k + 1, ⟨nst, nho, nep, nsi⟩, pre ++ [((k : Int), ⟨nst, nho, nep, nsi⟩)], r7, by go_num, by omega, by rw [hpre'.out, List.append_assoc]; rfl, s7, e7.ab a7 (fun ad' e h => by cases e; omega), hJ _ _ _ _ hJ7 a7⟩
        case measure => simp [intOf]; omega
    · obtain rfl : k = n := by omega
      rw [List.drop_eq_nil_of_le (by omega), show after k line [] = [] from rfl, List.append_nil] at hpre
      have hpre' := Lib.hid hpre
      clear hpre
      gi_wp2
      refine bodyPost_end (results_none rfl _ _ _) rfl ?_
      exact ⟨⟨_, rfl⟩, .inl ⟨pre, r, hpre'.out.symm, hj⟩⟩
end Go.Proofs.Yteilkigdlkeiaaa.Lf

namespace Go.Proofs.Yteilkigdlkeiaaa.Lf
set_option linter.unusedVariables false
set_option linter.unusedSimpArgs false
open Go Go.RowKit
attribute [local go_sem] Oper.semAt_some wide_depth

theorem lines_in (F : Fence) (hF : F = Fence.wide) (A : Option Addr) (n c : Nat) (w : World) :
    CallsIn F 0 Try.prog 42 #[.slice A n c] w fun e w' => e = .returned (.func (.func 56) #[] #[.pointer (some ⟨w.heap.size, 0, none⟩)]) ∧ w' = w.alloc (.cells #[.slice A n c] 24) := by
  subst hF
  refine callsIn_of_wp Try.func42 rfl trivial ?_ rfl
  simp only [Try.ntmps42, List.size_toArray, List.length_cons, List.length_nil, Nat.reduceAdd, Nat.reduceSub, Array.replicate_succ, Array.replicate_zero, List.push_toArray, List.append_toArray, List.nil_append, List.cons_append]
  gi_wp2
  go_ret
  exact ⟨rfl, rfl⟩

def cntOf (p : List (Int × Ln)) : Int := match p.getLast? with | none => 0 | some x => x.1 + 1
def lastOf (p : List (Int × Ln)) : Ln := match p.getLast? with | none => zeroL | some x => x.2
theorem cntOf_snoc (p : List (Int × Ln)) (x : Int × Ln) : cntOf (p ++ [x]) = x.1 + 1 := by simp [cntOf]
theorem lastOf_snoc (p : List (Int × Ln)) (x : Int × Ln) : lastOf (p ++ [x]) = x.2 := by simp [lastOf]

/-- what life.Run returns -/
def runV (L : List Ev) : Ln × Int × Int :=
  if cntOf (items (L.take 40)) < L.length then (zeroL, cntOf (items (L.take 40)), 140) else (lastOf (items (L.take 40)), cntOf (items (L.take 40)), 0)

theorem after_idx : ∀ (es : List Ev) (i : Nat) (l : Ln), ∀ x ∈ after i l es, (i : Int) ≤ x.1 ∧ x.1 < i + es.length
  | [], i, l, x, h => by simp [after] at h
  | e :: es, i, l, x, h => by
    simp only [after] at h
    split at h
    · simp at h
    · rcases List.mem_cons.1 h with rfl | h
      · simp; omega
      · have := after_idx es (i + 1) _ x h
        simp; omega
theorem items_idx {L : List Ev} {x : Int × Ln} (h : x ∈ items L) : -1 ≤ x.1 ∧ x.1 < L.length := by
  rcases List.mem_cons.1 h with rfl | h
  · simp; omega
  · have := after_idx L 0 _ x h
    omega

theorem EvsIn.take {W : World} {A : Option Addr} {L : List Ev} (h : EvsIn W A L) (m : Nat) : EvsIn W A (L.take m) := by
  intro k hk
  have hk' : k < L.length := by simp at hk; omega
  have := h k hk'
  rw [List.getElem_take]
  exact this

theorem results_cell3 {fn : Func} {p u q : Tmp} {ty : TypeId} (h : fn.results = #[.cell p ty, .tmp u, .tmp q]) (tmps : Array Value) (P : Program) (w : World) :
    (results fn tmps).run P w = ((asAddr (tmps.getD p undef)).run P w).andThen fun a w₁ => ((loadVar ty a).run P w₁).andThen fun v w₂ => .ok (.tuple #[v, tmps.getD u undef, tmps.getD q undef]) w₂ := by
  simp only [results, h]
  simp [Sem.run_bind, Result.andThen]

set_option maxHeartbeats 4000000 in
theorem run_any (A : Option Addr) (n c : Nat) (L : List Ev) (hn : L.length = n) (hn2 : n ≤ 140737488351232) (hc : n ≤ c) (w : World) (hE : EvsIn w A L) :
    Calls Try.prog 17 #[.slice A n c] w fun e w' => e = .returned (.tuple #[(runV L).1.v, .int .i64 (runV L).2.1, .int .i64 (runV L).2.2]) ∧ Below w.heap.size w w' := by
  obtain ⟨m, hm, hmn, hm40⟩ : ∃ m : Nat, min (n : Int) 40 = (m : Int) ∧ m ≤ n ∧ L.take 40 = L.take m ∧ (L.take m).length = m := ⟨min n 40, by omega, by omega, by
    by_cases h : n ≤ 40
    · rw [show min n 40 = n by omega, List.take_of_length_le (by omega), List.take_of_length_le (by omega)]; exact ⟨rfl, hn⟩
    · rw [show min n 40 = 40 by omega]; exact ⟨rfl, by rw [List.length_take]; omega⟩⟩
  have hEm := hE.take m
  obtain ⟨hm40, hlen⟩ := hm40
  have hRV := Lib.hid (show runV L = if cntOf (items (L.take m)) < (n : Int) then (zeroL, cntOf (items (L.take m)), 140) else (lastOf (items (L.take m)), cntOf (items (L.take m)), 0) by rw [runV, hm40, hn])
  generalize runV L = rv at hRV
  clear hm40 hE
  generalize L.take m = L' at hEm hlen hRV
  clear hn
  refine callsIn_wide (n := 0) |>.1 ?_
  refine callsIn_of_wp_marks Try.func17 rfl trivial ?_ rfl
  simp only [Try.ntmps17, List.size_toArray, List.length_cons, List.length_nil, Nat.reduceAdd, Nat.reduceSub, Array.replicate_succ, Array.replicate_zero, List.push_toArray, List.append_toArray, List.nil_append, List.cons_append]
  gi_wp2_with fail
  refine ⟨trivial, (lines_in _ rfl _ _ _ _).mono ?_⟩
  rintro e w' ⟨rfl, rfl⟩
  gi_wp2_with fail
  have kR := Blk.new w (lineCells zeroL) 26
  have kN := Blk.new (w.alloc (.cells (lineCells zeroL) 26)) #[.int .i64 0] 3
  have kL := Blk.new ((w.alloc (.cells (lineCells zeroL) 26)).alloc (.cells #[.int .i64 0] 3)) (lineCells zeroL) 26
  have kC := Blk.new (((w.alloc (.cells (lineCells zeroL) 26)).alloc (.cells #[.int .i64 0] 3)).alloc (.cells (lineCells zeroL) 26)) #[.slice A m c] 24
  replace kR := ((kR.alloc (.cells #[.int .i64 0] 3)).alloc (.cells (lineCells zeroL) 26)).alloc (.cells #[.slice A m c] 24)
  replace kN := (kN.alloc (.cells (lineCells zeroL) 26)).alloc (.cells #[.slice A m c] 24)
  replace kL := kL.alloc (.cells #[.slice A m c] 24)
  have hB0 : Below w.heap.size w ((((w.alloc (.cells (lineCells zeroL) 26)).alloc (.cells #[.int .i64 0] 3)).alloc (.cells (lineCells zeroL) 26)).alloc (.cells #[.slice A m c] 24)) := by
    repeat (first | exact Below.refl _ _ | refine Below.alloc ?_ (by simp <;> omega) _)
  have hsz : ((((w.alloc (.cells (lineCells zeroL) 26)).alloc (.cells #[.int .i64 0] 3)).alloc (.cells (lineCells zeroL) 26)).alloc (.cells #[.slice A m c] 24)).heap.size = w.heap.size + 4 := by simp
  simp only [World.size_alloc] at kN kL kC
  have hl0 : lineCells zeroL = #[.int .i64 0, .int .i64 0, .int .i64 0, .int .i64 0] := rfl
  rw [hl0] at kR kN kL kC hB0 hsz
  generalize hW4 : (((w.alloc (.cells #[.int .i64 0, .int .i64 0, .int .i64 0, .int .i64 0] 26)).alloc (.cells #[.int .i64 0] 3)).alloc (.cells #[.int .i64 0, .int .i64 0, .int .i64 0, .int .i64 0] 26)).alloc (.cells #[.slice A m c] 24) = W4 at kR kN kL kC hB0 hsz
  clear hW4
  have hEl : 0 < L'.length → ∀ ad, A = some ad → ad.block < w.heap.size := fun h => hEm.lt h
  refine Ra.law (gf := 56) (lb := #[.pointer (some ⟨w.heap.size + 1 + 1 + 1, 0, none⟩)]) rfl (enters_of Try.func56 (by kernel_rfl) rfl)
    (encs := encs) (Ab := Ab (w.heap.size + 6)) (Kp := Kp (fun k => k = w.heap.size + 1 ∨ k = w.heap.size + 1 + 1) (w.heap.size + 1)) (Lt := Lt) (r0 := none) (Nx := Nx L') (S := fun xs => xs = items L') (Sp := fun pre => pre <+: items L')
    ?hit ?hAb (fun h k => h.trans k) (fun r W l o o' _ hl ho => Kp.book r W l o o' hl ho) (fun _ => rfl)
    (fun pre r W => Blk W (w.heap.size + 1) #[.int .i64 (cntOf pre)] 3 ∧ Blk W (w.heap.size + 1 + 1) (lineCells (lastOf pre)) 26 ∧ Blk W w.heap.size (lineCells zeroL) 26 ∧ Below w.heap.size w W ∧ r = none)
    (fun _ _ _ _ => False) ?hIa (fun _ _ _ _ _ h _ => h) ?hLt ?hI (fun _ => ⟨fun _ _ _ _ h => h, fun _ _ _ _ _ _ h _ _ _ => h⟩) ?h0
    (fun x b => { tmps := #[.slice A n c, undef, .pointer (some ⟨w.heap.size, 0, none⟩), .int .i64 0, .int .i64 0, .pointer (some ⟨w.heap.size + 1, 0, none⟩), .pointer (some ⟨w.heap.size + 1 + 1, 0, none⟩), .int .i64 x.1, .pointer (some ⟨b, 0, none⟩), .agg #[.int .i64 0, .int .i64 0, .int .i64 0, .int .i64 0], .slice A n c, .slice A n c, .int .i64 n, .int .i64 m, .slice A m c, .func (.func 56) #[] #[.pointer (some ⟨w.heap.size + 1 + 1 + 1, 0, none⟩)], .int .i64 x.1, x.2.v, undef, undef, undef, undef, undef, undef, undef, undef, undef, undef, undef], defers := [] })
    (fun x => .cells (lineCells x.2) 26) (fun r W o => Kp.alloc r W o) ?assign ?body ?done ?stop
  case hit =>
    intro l W1 hl hb hs
    rw [hsz] at hs
    rw [show w.heap.size + 6 = W1.heap.size by omega]
    exact lines1 _ (w.heap.size + 1) l (w.heap.size + 1 + 1 + 1) A m c L' hlen (by omega) W1 (kC.below hb (by omega)) ((hEm.below hB0 (Nat.le_refl _)).below hb (by omega)) (fun k hk => by omega) (by omega) (fun hl ad' e => by have := hEl hl ad' e; exact ⟨by omega, by omega⟩)
  case hAb =>
    intro A B hab k o _ ho hc
    exact hab.block k o ho fun _ c f e => by subst e; cases hc
  case hIa =>
    rintro pre r A B ⟨h1, h2, h3, h4, h5⟩ hab
    exact ⟨hab.blk h1 (.inl (by omega)), hab.blk h2 (.inl (by omega)), hab.blk h3 (.inl (by omega)), below_ab h4 hab (by omega), h5⟩
  case hLt =>
    intro s r A _
    exact trivial
  case hI =>
    refine ⟨?_, ?_⟩
    · rintro pre r W o ⟨h1, h2, h3, h4, h5⟩
      exact ⟨h1.alloc o, h2.alloc o, h3.alloc o, h4.alloc h4.size o, h5⟩
    · rintro pre r W l o o' ⟨h1, h2, h3, h4, h5⟩ hl ho hc
      exact ⟨h1.putObj o' ho hc, h2.putObj o' ho hc, h3.putObj o' ho hc, below_putObj h4 (by omega), h5⟩
  case h0 => exact ⟨kN, kL, kR, hB0, rfl⟩
  case assign =>
    rintro l ⟨i, ⟨st, ho, ep, si⟩⟩ W K hK
    dsimp only [encs, Ln.v] at hK ⊢
    gi_wp2
    exact hK
  case body =>
    rintro l pre r ⟨i, ⟨st, ho, ep, si⟩⟩ b W W0 hnx ⟨h1, h2, h3, h4, rfl⟩ hb hob rfl _
    have hi := items_idx (hnx.subset (show (i, (⟨st, ho, ep, si⟩ : Ln)) ∈ pre ++ [(i, ⟨st, ho, ep, si⟩)] by simp))
    obtain ⟨c0, c1, c2, c3⟩ := line_cells (t := 26) (show Blk W W0.heap.size (lineCells ⟨st, ho, ep, si⟩) _ from hob)
    have z0 := h1.cell 0 rfl
    generalize cntOf pre = oc at h1 z0
    generalize lastOf pre = ol at h2
    obtain ⟨ost, oho, oep, osi⟩ := ol
    obtain ⟨z1, z2, z3, z4⟩ := line_cells h2
    have f1 := h1.frozen 0
    have f2 := h2.frozen 0
    have f3 := h2.frozen 1
    have f4 := h2.frozen 2
    have f5 := h2.frozen 3
    dsimp only [Ln.v]
    gi_wp2_with fail
    have hmix : Try.prog.follows .mixedOrders = true := by kernel_rfl
    have hw : IntKind.i64.wrap (i + 1) = i + 1 := by rw [IntKind.wrap_i64]; omega
    gi_region_o
    all_goals (
      have g1 := ((((h1.set 0 (.int .i64 (i + 1))).other (b' := w.heap.size + 1 + 1) (by omega) 0 (.int .i64 st)).other (b' := w.heap.size + 1 + 1) (by omega) 1 (.int .i64 ho)).other (b' := w.heap.size + 1 + 1) (by omega) 2 (.int .i64 ep)).other (b' := w.heap.size + 1 + 1) (by omega) 3 (.int .i64 si)
      have g2 := ((((h2.other (b' := w.heap.size + 1) (by omega) 0 (.int .i64 (i + 1))).set 0 (.int .i64 st)).set 1 (.int .i64 ho)).set 2 (.int .i64 ep)).set 3 (.int .i64 si)
      have g3 := ((((h3.other (b' := w.heap.size + 1) (by omega) 0 (.int .i64 (i + 1))).other (b' := w.heap.size + 1 + 1) (by omega) 0 (.int .i64 st)).other (b' := w.heap.size + 1 + 1) (by omega) 1 (.int .i64 ho)).other (b' := w.heap.size + 1 + 1) (by omega) 2 (.int .i64 ep)).other (b' := w.heap.size + 1 + 1) (by omega) 3 (.int .i64 si)
      refine ⟨?_, none, ?_, by rw [cntOf_snoc]; exact g1.drew, by rw [lastOf_snoc]; exact g2.drew, g3.drew, ?_, rfl⟩
      · exact (((((KeepsOthers.setCell _ _ _).trans (KeepsOthers.setCell _ _ _)).trans (KeepsOthers.setCell _ _ _)).trans (KeepsOthers.setCell _ _ _)).trans (KeepsOthers.setCell _ _ _)).trans (KeepsOthers.drew _)
      · exact (((((Kp.setCell _ _ _ _ _ (.inl rfl)).trans (Kp.setCell _ _ _ _ _ (.inr rfl))).trans (Kp.setCell _ _ _ _ _ (.inr rfl))).trans (Kp.setCell _ _ _ _ _ (.inr rfl))).trans (Kp.setCell _ _ _ _ _ (.inr rfl))).trans (Kp.drew _ _)
      · repeat (first | exact h4 | refine Below.drew ?_ | refine Below.setCell ?_ (by simp <;> omega) _))
  case done =>
    rintro D ys r W hD rfl ⟨h1, h2, h3, h4, rfl⟩ hK
    have hc1 := h1.cell 0 rfl
    generalize cntOf (items L') = cnt at h1 hc1 hRV
    generalize lastOf (items L') = last at h2 hRV
    obtain ⟨st, ho, ep, si⟩ := last
    obtain ⟨c0, c1, c2, c3⟩ := line_cells h2
    obtain ⟨y0, y1, y2, y3⟩ := line_cells h3
    have f0 := h3.frozen 0
    have f1 := h3.frozen 1
    have f2 := h3.frozen 2
    have f3 := h3.frozen 3

    by_cases hlt : cnt < (n : Int)
    · obtain rfl : rv = (zeroL, cnt, 140) := by rw [hRV.out, if_pos hlt]
      gi_wp2_with fail
      gi_region
      all_goals (
        gi_wp2_with fail
        have q3 := ((((h3.set 0 (.int .i64 0)).set 1 (.int .i64 0)).set 2 (.int .i64 0)).set 3 (.int .i64 0)).drew
        have hK5 := ((((KeepsOthers.setCell W ⟨w.heap.size, 0, none⟩ (.int .i64 0)).trans (KeepsOthers.setCell _ ⟨w.heap.size, 1, none⟩ (.int .i64 0))).trans (KeepsOthers.setCell _ ⟨w.heap.size, 2, none⟩ (.int .i64 0))).trans (KeepsOthers.setCell _ ⟨w.heap.size, 3, none⟩ (.int .i64 0))).trans (KeepsOthers.drew _) |>.same _ _ hK rfl
        have hB5 : Below w.heap.size w _ := (((((h4.setCell (p := ⟨w.heap.size, 0, none⟩) (Nat.le_refl _) (.int .i64 0)).setCell (p := ⟨w.heap.size, 1, none⟩) (Nat.le_refl _) (.int .i64 0)).setCell (p := ⟨w.heap.size, 2, none⟩) (Nat.le_refl _) (.int .i64 0)).setCell (p := ⟨w.heap.size, 3, none⟩) (Nat.le_refl _) (.int .i64 0))).drew
        refine ⟨by simp, .inl ⟨_, _, rfl, run_takeDeferred hK5, ?_⟩⟩
        have q4 := q3.putObj (.deferred none) hK5 rfl
        obtain ⟨u0, u1, u2, u3⟩ := line_cells (st := 0) (ho := 0) (ep := 0) (si := 0) q4
        refine ⟨.tuple #[zeroL.v, .int .i64 cnt, .int .i64 140], (by rw [results_cell3 rfl]; go_simp; try rfl), rfl, below_putObj hB5 (by omega)⟩)
    · obtain rfl : rv = (⟨st, ho, ep, si⟩, cnt, 0) := by rw [hRV.out, if_neg hlt]
      gi_wp2_with fail
      gi_region
      all_goals (
        gi_wp2_with fail
        have q3 := ((((h3.set 0 (.int .i64 st)).set 1 (.int .i64 ho)).set 2 (.int .i64 ep)).set 3 (.int .i64 si)).drew
        have hK5 := ((((KeepsOthers.setCell W ⟨w.heap.size, 0, none⟩ (.int .i64 st)).trans (KeepsOthers.setCell _ ⟨w.heap.size, 1, none⟩ (.int .i64 ho))).trans (KeepsOthers.setCell _ ⟨w.heap.size, 2, none⟩ (.int .i64 ep))).trans (KeepsOthers.setCell _ ⟨w.heap.size, 3, none⟩ (.int .i64 si))).trans (KeepsOthers.drew _) |>.same _ _ hK rfl
        have hB5 : Below w.heap.size w _ := (((((h4.setCell (p := ⟨w.heap.size, 0, none⟩) (Nat.le_refl _) (.int .i64 st)).setCell (p := ⟨w.heap.size, 1, none⟩) (Nat.le_refl _) (.int .i64 ho)).setCell (p := ⟨w.heap.size, 2, none⟩) (Nat.le_refl _) (.int .i64 ep)).setCell (p := ⟨w.heap.size, 3, none⟩) (Nat.le_refl _) (.int .i64 si))).drew
        refine ⟨by simp, .inl ⟨_, _, rfl, run_takeDeferred hK5, ?_⟩⟩
        have q4 := q3.putObj (.deferred none) hK5 rfl
        obtain ⟨u0, u1, u2, u3⟩ := line_cells (st := st) (ho := ho) (ep := ep) (si := si) q4
        refine ⟨.tuple #[.agg #[.int .i64 st, .int .i64 ho, .int .i64 ep, .int .i64 si], .int .i64 cnt, .int .i64 0], (by rw [results_cell3 rfl]; go_simp; try rfl), rfl, below_putObj hB5 (by omega)⟩)
  case stop =>
    rintro D c' pre r W _ _ h _
    exact h.elim
end Go.Proofs.Yteilkigdlkeiaaa.Lf

namespace Go.Proofs.Yteilkigdlkeiaaa.Lf
set_option linter.unusedVariables false
set_option linter.unusedSimpArgs false
open Go Go.RowKit

def lineFrom : Ln → List Ev → Ln
  | l, [] => l
  | l, e :: es => match step l e with
    | none => l
    | some n => lineFrom n es
def cntFrom : Ln → List Ev → Nat
  | _, [] => 0
  | l, e :: es => match step l e with
    | none => 0
    | some n => cntFrom n es + 1
def okFrom : Ln → List Ev → Bool
  | _, [] => true
  | l, e :: es => match step l e with
    | none => false
    | some n => okFrom n es
def lifeB (L : List Ev) : Bool := decide (L.length ≤ 40) && okFrom firstL L

theorem cnt_last : ∀ (es : List Ev) (i : Nat) (l : Ln) (x : Int × Ln), x.1 + 1 = i → x.2 = l → cntOf (x :: after i l es) = i + cntFrom l es ∧ lastOf (x :: after i l es) = lineFrom l es
  | [], i, l, x, h1, h2 => by simp [after, cntOf, lastOf, cntFrom, lineFrom, h1, h2]
  | e :: es, i, l, x, h1, h2 => by
    rcases hs : step l e with _ | n
    · simp [after, cntOf, lastOf, cntFrom, lineFrom, h1, h2, hs]
    · have := cnt_last es (i + 1) n ((i : Int), n) (by simp) rfl
      have e1 : cntOf (x :: ((i : Int), n) :: after (i + 1) n es) = cntOf (((i : Int), n) :: after (i + 1) n es) := by simp [cntOf, List.getLast?_cons_cons]
      have e2 : lastOf (x :: ((i : Int), n) :: after (i + 1) n es) = lastOf (((i : Int), n) :: after (i + 1) n es) := by simp [lastOf, List.getLast?_cons_cons]
      simp only [after, hs, cntFrom, lineFrom]
      rw [e1, e2]
      exact ⟨by rw [this.1]; push_cast; omega, this.2⟩
theorem cnt_items (L : List Ev) : cntOf (items L) = cntFrom firstL L := by have := (cnt_last L 0 firstL (-1, firstL) rfl rfl).1; simpa [items] using this
theorem last_items (L : List Ev) : lastOf (items L) = lineFrom firstL L := (cnt_last L 0 firstL (-1, firstL) rfl rfl).2

theorem cnt_le : ∀ (es : List Ev) (l : Ln), cntFrom l es ≤ es.length
  | [], l => Nat.le_refl _
  | e :: es, l => by
    simp only [cntFrom]
    split
    · simp
    · have := cnt_le es ‹Ln›; simp; omega
theorem ok_cnt : ∀ (es : List Ev) (l : Ln), (okFrom l es = true ↔ cntFrom l es = es.length)
  | [], l => by simp [okFrom, cntFrom]
  | e :: es, l => by
    simp only [cntFrom, okFrom]
    rcases step l e with _ | n
    · simp
    · simp [ok_cnt es]

theorem runV_life {L : List Ev} (h : lifeB L = true) : runV L = (lineFrom firstL L, (L.length : Int), 0) := by
  simp only [lifeB, Bool.and_eq_true, decide_eq_true_eq] at h
  have h2 := h.2
  rw [ok_cnt] at h2
  rw [runV, List.take_of_length_le h.1, cnt_items, last_items, h2, if_neg (by omega)]
theorem runV_not {L : List Ev} (h : lifeB L = false) : ∃ n, runV L = (zeroL, n, 140) := by
  rw [runV, cnt_items]
  refine ⟨_, if_pos ?_⟩
  by_cases hl : L.length ≤ 40
  · rw [List.take_of_length_le hl]
    have h2 : okFrom firstL L = false := by simpa [lifeB, hl] using h
    have h2 : ¬ cntFrom firstL L = L.length := fun e => by rw [(ok_cnt L firstL).2 e] at h2; cases h2
    have := cnt_le L firstL
    omega
  · have := cnt_le (L.take 40) firstL
    rw [List.length_take] at this
    omega
theorem runV_err (L : List Ev) : (runV L).2.2 = if lifeB L then 0 else 140 := by
  rcases h : lifeB L with _ | _
  · obtain ⟨n, e⟩ := runV_not h; rw [e]; rfl
  · rw [runV_life h]; rfl

theorem step_some {l : Ln} {e : Ev} {n : Ln} (h : step l e = some n) : validB l = true ∧ formedB e = true ∧ mayB l e = true ∧ n = nextL l e := by
  rw [step] at h
  split at h
  · rename_i hh
    simp only [Bool.and_eq_true] at hh
    cases h
    exact ⟨hh.1.1, hh.1.2, hh.2, rfl⟩
  · cases h
theorem next_si (l : Ln) (e : Ev) : (nextL l e).si = e.a := by unfold nextL; (repeat' split) <;> rfl
theorem may_le {l : Ln} {e : Ev} (h : mayB l e = true) : l.si ≤ e.a := by
  unfold mayB at h
  rw [Bool.and_eq_true, decide_eq_true_eq] at h
  exact h.1

/-- the events of a life ascend -/
theorem ok_mono : ∀ (es : List Ev) (l : Ln), okFrom l es = true → (∀ x ∈ es, l.si ≤ x.a) ∧ es.Pairwise (fun x y => x.a ≤ y.a)
  | [], l, h => by simp
  | e :: es, l, h => by
    simp only [okFrom] at h
    split at h
    · cases h
    · rename_i n hs
      obtain ⟨h1, h2, h3, h4⟩ := step_some hs
      have ih := ok_mono es n h
      have hle := may_le h3
      have hsi : n.si = e.a := by rw [h4, next_si]
      refine ⟨?_, List.pairwise_cons.2 ⟨fun x hx => ?_, ih.2⟩⟩
      · intro x hx
        rcases List.mem_cons.1 hx with rfl | hx
        · exact hle
        · have := ih.1 x hx; omega
      · have := ih.1 x hx; omega

/-- how many events are not after a time -/
def kAt (L : List Ev) (t : Int) : Nat := (L.takeWhile (fun e => decide (e.a ≤ t))).length
theorem kAt_le (L : List Ev) (t : Int) : kAt L t ≤ L.length := (List.takeWhile_prefix _).length_le
theorem kAt_cons (e : Ev) (es : List Ev) (t : Int) : kAt (e :: es) t = if e.a ≤ t then kAt es t + 1 else 0 := by
  simp only [kAt, List.takeWhile_cons]
  split <;> simp_all
theorem kAt_spec : ∀ (L : List Ev) (t : Int), L.Pairwise (fun x y => x.a ≤ y.a) → ∀ i (h : i < L.length), (i < kAt L t ↔ L[i].a ≤ t)
  | [], t, _, i, h => by simp at h
  | e :: es, t, hp, i, h => by
    obtain ⟨h1, h2⟩ := List.pairwise_cons.1 hp
    rw [kAt_cons]
    cases i with
    | zero => simp only [List.getElem_cons_zero]; split <;> simp_all
    | succ i =>
      have hi : i < es.length := by simpa using h
      have := kAt_spec es t h2 i hi
      simp only [List.getElem_cons_succ]
      split
      · rw [← this]; omega
      · have := h1 es[i] (List.getElem_mem _)
        constructor <;> intro <;> omega

/-- what life.at returns -/
def atV (L : List Ev) (t : Int) : Option Ln := if lifeB L && inB t 0 10000000 then some (runV (L.take (kAt L t))).1 else none
def atR (o : Option Ln) : Value := match o with
  | some l => .tuple #[l.v, .bool true]
  | none => .tuple #[zeroL.v, .bool false]

theorem life_pairwise {L : List Ev} (h : lifeB L = true) : L.Pairwise (fun x y => x.a ≤ y.a) := by
  simp only [lifeB, Bool.and_eq_true] at h
  exact (ok_mono L firstL h.2).2
end Go.Proofs.Yteilkigdlkeiaaa.Lf

namespace Go.Proofs.Yteilkigdlkeiaaa.Lf
set_option linter.unusedVariables false
set_option linter.unusedSimpArgs false
open Go Go.RowKit

set_option maxHeartbeats 4000000 in
theorem search (g : Nat) (cb : Array Value) (n r : Nat) (p : Nat → Bool) (w : World) (eg : ∀ args w, (callFunc g args).run Try.prog w = .ok (.enter g args) w) (hsz : n ≤ 140737488351232) (hr : r ≤ n)
    (hf : ∀ (W : World) (i : Nat), Below w.heap.size w W → i < n → Calls Try.prog g (#[.int .i64 i] ++ cb) W fun e w' => e = .returned (.bool (p i)) ∧ Below W.heap.size W w')
    (h0 : ∀ t, t < r → p t = false) (h1 : ∀ t, r ≤ t → t < n → p t = true) :
    Calls Try.prog 57 #[.int .i64 n, .func (.func g) #[] cb] w fun e w' => e = .returned (.int .i64 r) ∧ Below w.heap.size w w' := by
  have HF := Lib.hid hf
  have H0 := Lib.hid h0
  have H1 := Lib.hid h1
  clear hf h0 h1
  go_enter Try.func57, Try.ntmps57
  go_wp2
  go_loopg [5, 6] n (fun kx s5 s6 wr => ∃ (lo hi : Nat), s5 = .int .i64 lo ∧ s6 = .int .i64 hi ∧ lo ≤ r ∧ r ≤ hi ∧ hi ≤ n ∧ hi - lo ≤ kx ∧ Below w.heap.size w wr)
  case atStart => exact ⟨0, n, rfl, rfl, Nat.zero_le _, hr, Nat.le_refl _, by omega, Below.refl _ _⟩
  case round =>
    obtain ⟨lo, hi, rfl, rfl, hlr, hrh, hin, hg, hB⟩ := hrel
    by_cases hlt : lo < hi
    · have hc := HF.out wr ((lo + hi) / 2) hB (by omega)
      rw [show (((lo + hi) / 2 : Nat) : Int) = ((lo : Int) + (hi : Int)) / 2 by omega] at hc
      have HB := Lib.hid hB
      cases hp : p ((lo + hi) / 2) <;> rw [hp] at hc
      · have HP : (lo + hi) / 2 < r := by
          by_cases h : (lo + hi) / 2 < r
          · exact h
          · have := H1.out ((lo + hi) / 2) (by omega) (by omega); rw [hp] at this; cases this
        clear hp
        go_wp2_with (go_at_fn g; refine hc.mono ?_; rintro e w' ⟨rfl, hw⟩)
        go_roundg (hi - ((lo + hi) / 2 + 1))
        case measure => omega
        case rel =>
          exact ⟨(lo + hi) / 2 + 1, hi, by rw [show ((lo : Int) + (hi : Int)) / 2 + 1 = (((lo + hi) / 2 + 1 : Nat) : Int) by omega], rfl, by omega, hrh, hin, Nat.le_refl _, HB.out.trans (hw.mono HB.out.size)⟩
      · have HP : r ≤ (lo + hi) / 2 := by
          by_cases h : (lo + hi) / 2 < r
          · have := H0.out ((lo + hi) / 2) h; rw [hp] at this; cases this
          · omega
        clear hp
        go_wp2_with (go_at_fn g; refine hc.mono ?_; rintro e w' ⟨rfl, hw⟩)
        go_roundg ((lo + hi) / 2 - lo)
        case measure => omega
        case rel =>
          exact ⟨lo, (lo + hi) / 2, rfl, by rw [show ((lo : Int) + (hi : Int)) / 2 = (((lo + hi) / 2 : Nat) : Int) by omega], hlr, HP, by omega, Nat.le_refl _, HB.out.trans (hw.mono HB.out.size)⟩
    · obtain rfl : lo = r := by omega
      obtain rfl : hi = lo := by omega
      go_wp2
      go_ret
      exact ⟨rfl, hB⟩

theorem at1 (b1 b2 : Nat) (A : Option Addr) (n c : Nat) (L : List Ev) (t : Int) (i : Nat) (hn : L.length = n) (hi : i < n) (w : World) (hE : EvsIn w A L)
    (hb1 : w.cell? ⟨b1, 0, none⟩ = some (.slice A n c)) (hb2 : w.cell? ⟨b2, 0, none⟩ = some (.int .i64 t)) :
    Calls Try.prog 58 #[.int .i64 i, .pointer (some ⟨b1, 0, none⟩), .pointer (some ⟨b2, 0, none⟩)] w fun e w' => e = .returned (.bool (decide (t < (L[i]'(by omega)).a))) ∧ Below w.heap.size w w' := by
  obtain ⟨ad, rfl, d0, d1, d2⟩ := hE i (by omega)
  generalize (L[i]'(by omega)).a = a at d1 ⊢
  go_enter Try.func58, Try.ntmps58
  go_wp2
  go_region
  all_goals (
    go_wp2
    go_ret
    exact ⟨rfl, (Below.refl _ _).drew⟩)
end Go.Proofs.Yteilkigdlkeiaaa.Lf

namespace Go.Proofs.Yteilkigdlkeiaaa.Rnd
set_option linter.unusedVariables false
set_option linter.unusedSimpArgs false
open Go Go.RowKit

theorem upon_round {F : Fence} {n : Nat} {P : Program} {o : Oper} {a : Act} {K : Act → World → Prop} {Q : Exit → Act → World → Prop} (r : Nat) (x : Result Next) (h : o.uponIn F n P a K Q x) : o.uponIn (F.inRound r) n P a K Q x := by
  cases x with
  | ok v w' => cases v <;> exact h
  | halt v w' => exact h

theorem op_round {F : Fence} {n : Nat} {P : Program} {o : Oper} {a : Act} {w : World} {K : Act → World → Prop} {Q : Exit → Act → World → Prop} (r : Nat) (hF : F.round = none) (hd : ∀ c, o.op ≠ .defer c)
    (h : o.wpIn F n P a w K Q) : o.wpIn (F.inRound r) n P a w K Q := by
  refine ⟨h.1, ?_⟩
  have h2 := h.2
  rw [Oper.semAt_eq _ _ _ hd] at h2 ⊢
  exact upon_round r _ h2

theorem any_round {F : Fence} {n : Nat} {P : Program} {md : Region.Mode} {ops : Array Oper} {Q : Exit → Act → World → Prop} (r : Nat) (hF : F.round = none) (hd : ∀ (i : Nat) (o : Oper), ops[i]? = some o → ∀ c, o.op ≠ .defer c) :
    ∀ (fuel : Nat) (listed : Array Bool) (a : Act) (w : World), wpAnyIn F n P md ops Q fuel listed a w → wpAnyIn (F.inRound r) n P md ops Q fuel listed a w
  | 0, _, _, _, h => h
  | fuel + 1, _, _, _, h => ⟨h.1, fun i hi => by
    have h2 := h.2 i hi
    unfold wpOpIn at h2 ⊢
    split
    · rename_i ho
      simp only [ho] at h2
      exact any_round r hF hd fuel _ _ _ h2
    · rename_i o ho
      simp only [ho] at h2
      split
      · rename_i hw
        simp only [hw, if_true] at h2
        exact Oper.wpIn_mono (fun a w hh => any_round r hF hd fuel _ a w hh) (op_round r hF (hd i o ho) h2)
      · rename_i hw
        simp only [hw] at h2
        exact ⟨h2.1, any_round r hF hd fuel _ _ _ h2.2⟩⟩

def noDefer (l : List Oper) : Bool := l.all fun o => match o.op with | .defer _ => false | _ => true
theorem noDefer_spec {l : List Oper} (h : noDefer l = true) : ∀ (i : Nat) (o : Oper), l.toArray[i]? = some o → ∀ c, o.op ≠ .defer c := by
  intro i o ho c e
  have hm : o ∈ l := by
    rw [List.getElem?_toArray] at ho
    exact List.mem_of_getElem? ho
  have := List.all_eq_true.1 h o hm
  rw [e] at this
  cases this

/-- a region that draws and only reads, in a round -/
theorem quiet_round {F : Fence} {n : Nat} {P : Program} {id : Nat} {Q : Exit → Act → World → Prop} {a : Act} {w : World} {l : List Oper} (r : Nat) (hro : F.round = none) (hm : P.follows .mixedOrders = true) (hd : noDefer l = true) (hB : Region.lexB .any l.toArray = true)
    (h : wpQuietIn F n P l.toArray (fun w' => ∃ n, w' = w.drewN n) (fun a' => ∀ w', (∃ n, w' = w.drewN n) → Q .normal a' w') l a) : (Code.region id l.toArray true).wpIn (F.inRound r) n P Q a w := by
  refine wpIn_region_any hm (any_round r hro (noDefer_spec hd) _ _ _ _ ?_)
  have hB' := hB
  simp only [Region.lexB, Bool.and_eq_true] at hB'
  refine wpAnyIn_of_quiet (C := fun w' => ∃ n, w' = w.drewN n) (Q := fun a' => ∀ w', (∃ n, w' = w.drewN n) → Q .normal a' w') hro (fun _ w' hw' h => h w' hw') _ _ _ _ ⟨1, rfl⟩ ?_
  have := wpAnyQIn_lex (F := F) (n := n) (P := P) (C := fun w' => ∃ n, w' = w.drewN n) (md := .any) (ops := l.toArray) hB'.1 l 0 (Array.replicate l.toArray.size false) a (by simp) (by simpa using hB'.2) h
  simpa using this
end Go.Proofs.Yteilkigdlkeiaaa.Rnd
