/- A law for 'for .. := range f' over an iterator that keeps state of its own in cells: the caller's invariant must only abide the iterator's own steps (Ab), and a round must keep what the iterator asks (Kp). -/
import Derived.RangeFuncNested
import Derived.RangeFuncBound
import Derived.RangeFuncCalls
import Derived.RangeFuncLeaves
import Derived.Shelf.Abstract
import Derived.Shelf.RegionOpen
import Derived.WalkKit
import Derived.OwnWalkIn
import Derived.TacticsInMore
import Derived.LoopNIn
import Derived.LoopIn
namespace Go.Proofs.Yteilkigdlkeiaaa.Rf
set_option linter.unusedVariables false
set_option linter.unusedSimpArgs false
open Go Go.RowKit

/-- What the iterator g promises every caller: J abides Ab; each round is handed the next element. -/
def Iter {α : Type} (P : Program) (g : Nat) (lb : Array Value) (encs : α → Array Value) (Ab Kp : World → World → Prop) (Nx : List α → α → Prop) (S Sp : List α → Prop) (l : Nat) (W : World) : Prop :=
  ∀ (J Jx : List α → World → Prop), (∀ s A B, J s A → Ab A B → J s B) → (∀ s A B, Jx s A → Ab A B → Jx s B) →
    (∀ pre x W1, Nx pre x → J pre W1 → YieldAt Fence.wide 0 P l (encs x) W1 fun e W' =>
      (e = .returned (.bool true) ∧ J (pre ++ [x]) W' ∧ Kp W1 W') ∨ (e = .returned (.bool false) ∧ Jx (pre ++ [x]) W')) →
    J [] W →
    CallsIn Fence.wide 0 P g (#[.func (.yield l) #[] #[]] ++ lb) W fun e W' => (∃ v, e = .returned v) ∧ ((∃ xs, S xs ∧ J xs W') ∨ (∃ pre, Sp pre ∧ Jx pre W'))

/-- How a round's body may be left. -/
def bodyEnds {α : Type} (Kp : World → World → Prop) (I : List α → World → Prop) (Ix : Code → List α → World → Prop) (xs : List α) (W : World) : Exit → Act → World → Prop
  | .normal, _, W' => KeepsOthers W W' ∧ Kp W W' ∧ I xs W'
  | .ret, _, W' => KeepsOthers W W' ∧ Ix .ret xs W'
  | .exit id, _, W' => KeepsOthers W W' ∧ Ix (.exit id) xs W'
  | .goto t, _, W' => KeepsOthers W W' ∧ Ix (.goto t) xs W'
  | .panic _, _, _ => False
  | .outgrown, _, _ => False

/-- The caller's invariant abides the loop's own book-keeping: blocks that hold no cells, from B on. -/
def Books {β : Type} (B : Nat) (I : β → World → Prop) : Prop :=
  (∀ s W o, I s W → I s (W.alloc o)) ∧ (∀ s W l o o', I s W → B ≤ l → W.heap[l]? = some o → o.isCells = false → I s (W.putObj l o'))

theorem Books.of_ownFrom {β : Type} {B : Nat} {I : β → World → Prop} (h : OwnFrom B I) : Books B I :=
  ⟨fun _ _ _ hs => h.alloc _ hs, fun _ _ _ _ _ hs hB hl ho => h.putObj _ hs hB hl ho⟩

set_option maxHeartbeats 1000000 in
theorem law {α : Type} {P : Program} {g : Operand} {ps : Array Tmp} {assign body : Code} {Q : Exit → Act → World → Prop} {a : Act} {w : World}
    {gf : Nat} {lb : Array Value} (hg : a.eval g = .func (.func gf) #[] lb) (eg : ∀ args w, (callFunc gf args).run P w = .ok (.enter gf args) w)
    {encs : α → Array Value} {Ab Kp : World → World → Prop} {Nx : List α → α → Prop} {S Sp : List α → Prop}
    (hit : ∀ (l : Nat) (W1 : World), w.heap.size < l → Below w.heap.size w W1 → W1.heap.size = w.heap.size + 2 → Iter P gf lb encs Ab Kp Nx S Sp l W1)
    (hAb : ∀ (A B : World), Ab A B → ∀ (k : Nat) (o : Obj), w.heap.size ≤ k → A.heap[k]? = some o → o.isCells = false → B.heap[k]? = some o)
    (hKt : ∀ {A B C : World}, Kp A B → Kp B C → Kp A C)
    (hKb : ∀ (W : World) (l : Nat) (o o' : Obj), w.heap.size ≤ l → W.heap[l]? = some o → o.isCells = false → Kp W (W.putObj l o'))
    (hps : ∀ x, (encs x).size = ps.size)
    (I : List α → World → Prop) (Ix : Code → List α → World → Prop)
    (hIa : ∀ s A B, I s A → Ab A B → I s B) (hIxa : ∀ c s A B, Ix c s A → Ab A B → Ix c s B)
    (hI : Books w.heap.size I) (hIx : ∀ c, Books w.heap.size (Ix c)) (h0 : I [] w) (a₁ : α → Act)
    (hassign : ∀ (l : Nat) (x : α) (W : World) (K : Act → World → Prop), K (a₁ x) W →
      assign.wpIn (Fence.wide.inRound l) 0 P (Exit.then K (fun _ _ _ => False)) { tmps := (ps.zip (encs x)).foldl (fun t (p, v) => t.setIfInBounds p v) a.tmps, defers := [] } W)
    (hbody : ∀ (l : Nat) (pre : List α) (x : α) (W : World), Nx pre x → I pre W → body.wpIn (Fence.wide.inRound l) 0 P (bodyEnds Kp I Ix (pre ++ [x]) W) (a₁ x) W)
    (hdone : ∀ (D : Nat) (xs : List α) (W : World), w.heap.size ≤ D → S xs → I xs W → W.heap[D]? = some (.deferred (some [])) → Q .normal { a with defers := { target := .collected D, args := #[] } :: a.defers } W)
    (hstop : ∀ (D : Nat) (c : Code) (pre : List α) (W : World), w.heap.size ≤ D → Sp pre → Ix c pre W → W.heap[D]? = some (.deferred (some [])) → c.wpIn Fence.wide 0 P Q { a with defers := { target := .collected D, args := #[] } :: a.defers } W) :
    (Code.rangeFunc g ps assign body).wpIn Fence.wide 0 P Q a w := by
  refine wpIn_rangeFunc ?_
  intro fn _
  obtain ⟨rec, hrec⟩ : ∃ rec : LoopState → Option Code → Loop, rec = fun st pe => { state := st, pending := pe, fn, tmps := a.tmps, params := ps, assign, body, defers := w.heap.size } := ⟨_, rfl⟩
  have hst : ∀ st pe, (rec st pe).state = st := fun st pe => by rw [hrec]
  have hpe : ∀ st pe, (rec st pe).pending = pe := fun st pe => by rw [hrec]
  have hset : ∀ st pe st' pe', ({ rec st pe with state := st', pending := pe' } : Loop) = rec st' pe' := fun st pe st' pe' => by rw [hrec]
  have hset1 : ∀ st pe st', ({ rec st pe with state := st' } : Loop) = rec st' pe := fun st pe st' => by rw [hrec]
  let D := w.heap.size
  let l := w.heap.size + 1
  -- the two blocks of book-keeping
  let Bk : Loop → World → Prop := fun r W => W.heap[l]? = some (.loop r) ∧ W.heap[D]? = some (.deferred (some []))
  have hBkA : ∀ r A B, Bk r A → Ab A B → Bk r B := fun r A B h hab => ⟨hAb A B hab _ _ (by omega) h.1 rfl, hAb A B hab _ _ (by omega) h.2 rfl⟩
  have hBkP : ∀ r r' A, Bk r A → Bk r' (A.putObj l (.loop r')) := fun r r' A h =>
    ⟨World.putObj_heap_same (Array.getElem?_eq_some_iff.1 h.1).1, (World.putObj_heap_other (by show w.heap.size ≠ w.heap.size + 1; omega)).trans h.2⟩
  let W1 := (w.alloc (.deferred (some []))).alloc (.loop (rec .ready none))
  have hBk1 : Bk (rec .ready none) W1 := by
    refine ⟨?_, ?_⟩
    · have := World.alloc_heap_new (w.alloc (.deferred (some []))) (.loop (rec .ready none))
      rw [World.size_alloc] at this; exact this
    · exact (Below.heap_alloc _ _ _ (by simp [D])).trans (World.alloc_heap_new w _)
  have hI1 : I [] W1 := hI.1 _ _ _ (hI.1 _ _ _ h0)
  have hb1 : Below w.heap.size w W1 := ((Below.refl _ w).alloc (Nat.le_refl _) _).alloc (by simp) _
  refine ⟨l, [{ target := .collected D, args := #[] }], W1, { target := .fn (.func gf) lb, args := #[.func (.yield l) #[] #[]] }, W1, gf,
    #[.func (.yield l) #[] #[]] ++ lb, W1, ?_, ?_, fun _ _ => trivial, ?_, fun h => by simp [Fence.wide] at h, ?_⟩
  · have := run_enterLoop_outer (P := P) (w := w) fn a.tmps ps assign body
    rw [show (Fence.wide).round = none from rfl]
    simp only [W1, l, D, hrec]; exact this
  · simp only [resolve, hg]
    simp [go_sem]
  · simp [invoke, go_sem, eg]
  · refine (hit l W1 (Nat.lt_succ_self _) hb1 (by simp [W1]) (fun pre W => I pre W ∧ Bk (rec .ready none) W) (fun pre W => ∃ c, Ix c pre W ∧ Bk (rec .done (some c)) W)
      (fun s A B h hab => ⟨hIa s A B h.1 hab, hBkA _ _ _ h.2 hab⟩) (fun s A B ⟨c, h1, h2⟩ hab => ⟨c, hIxa c s A B h1 hab, hBkA _ _ _ h2 hab⟩) ?_ ⟨hI1, hBk1⟩).mono ?_
    · rintro pre x W hnx ⟨hi, hbk⟩
      have hy := run_yield (P := P) (args := encs x) hbk.1 (by rw [hrec]; exact hps x)
      rw [show (rec .ready none).fn = fn by rw [hrec], show (rec .ready none).params = ps by rw [hrec], show (rec .ready none).tmps = a.tmps by rw [hrec], show (rec .ready none).assign = assign by rw [hrec],
        show (rec .ready none).body = body by rw [hrec]] at hy
      have hbr := run_beginRound (P := P) hbk.1 (hst _ _)
      rw [hset1] at hbr
      refine ⟨fn, _, assign, body, hy, roundIn_of_wpIn trivial (hassign _ x W _ ⟨_, hbr, ?_⟩)⟩
      have hbk2 : Bk (rec .busy none) (W.putObj l (.loop (rec .busy none))) := hBkP _ _ _ hbk
      refine wpIn_mono (hbody _ pre x _ hnx (hI.2 _ _ _ _ _ hi (by show w.heap.size ≤ w.heap.size + 1; omega) hbk.1 rfl)) ?_
      have hw2 : Kp W (W.putObj l (.loop (rec .busy none))) := hKb _ _ _ _ (by show w.heap.size ≤ w.heap.size + 1; omega) hbk.1 rfl
      have fin : ∀ (jump : Option Code) (W3 : World), KeepsOthers (W.putObj l (.loop (rec .busy none))) W3 →
          Bk (rec .busy none) W3 ∧ (Instr.endRound l jump).run P W3 = .ok (.bool jump.isNone) (W3.putObj l (.loop (rec (if jump.isNone then .ready else .done) jump))) := fun jump W3 hk3 => by
        have hb3 : Bk (rec .busy none) W3 := ⟨hk3.same _ _ hbk2.1 rfl, hk3.same _ _ hbk2.2 rfl⟩
        have := run_endRound (P := P) jump hb3.1
        rw [hset] at this
        exact ⟨hb3, this⟩
      have leave : ∀ (c : Code) (W3 : World), KeepsOthers (W.putObj l (.loop (rec .busy none))) W3 → Ix c (pre ++ [x]) W3 →
          ∃ v w', (Instr.endRound l (some c)).run P W3 = .ok v w' ∧ ((Ending.returned v = .returned (.bool true) ∧ (I (pre ++ [x]) w' ∧ Bk (rec .ready none) w') ∧ Kp W w') ∨ (Ending.returned v = .returned (.bool false) ∧ ∃ c, Ix c (pre ++ [x]) w' ∧ Bk (rec .done (some c)) w')) := fun c W3 hk3 hi3 => by
        obtain ⟨hb3, hr⟩ := fin (some c) W3 hk3
        exact ⟨_, _, hr, .inr ⟨rfl, c, (hIx c).2 _ _ _ _ _ hi3 (by show w.heap.size ≤ w.heap.size + 1; omega) hb3.1 rfl, hBkP _ _ _ hb3⟩⟩
      intro e a3 W3 hp
      cases e with
      | normal =>
        obtain ⟨hk3, hkp3, hi3⟩ := hp
        obtain ⟨hb3, hr⟩ := fin none W3 hk3
        exact ⟨_, _, hr, .inl ⟨rfl, ⟨hI.2 _ _ _ _ _ hi3 (by show w.heap.size ≤ w.heap.size + 1; omega) hb3.1 rfl, hBkP _ _ _ hb3⟩, hKt (hKt hw2 hkp3) (hKb _ _ _ _ (by show w.heap.size ≤ w.heap.size + 1; omega) hb3.1 rfl)⟩⟩
      | ret => exact leave .ret W3 hp.1 hp.2
      | exit id => exact leave (.exit id) W3 hp.1 hp.2
      | goto t => exact leave (.goto t) W3 hp.1 hp.2
      | panic ch => exact hp.elim
      | outgrown => exact hp.elim
    · rintro e W2 ⟨⟨v, rfl⟩, (⟨xs, hS, hi, hbk⟩ | ⟨pre, hSp, c, hi, hbk⟩)⟩
      · refine ⟨none, _, by have := run_endLoop (P := P) hbk.1 (by rw [hst]; simp); rw [hpe] at this; exact this, hdone D xs _ (Nat.le_refl _) hS (hI.2 _ _ _ _ _ hi (by show w.heap.size ≤ w.heap.size + 1; omega) hbk.1 rfl) ?_⟩
        exact (World.putObj_heap_other (by show w.heap.size ≠ w.heap.size + 1; omega)).trans hbk.2
      · refine ⟨some c, _, by have := run_endLoop (P := P) hbk.1 (by rw [hst]; simp); rw [hpe] at this; exact this, hstop D c pre _ (Nat.le_refl _) hSp ((hIx c).2 _ _ _ _ _ hi (by show w.heap.size ≤ w.heap.size + 1; omega) hbk.1 rfl) ?_⟩
        exact (World.putObj_heap_other (by show w.heap.size ≠ w.heap.size + 1; omega)).trans hbk.2

end Go.Proofs.Yteilkigdlkeiaaa.Rf
