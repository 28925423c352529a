/- A law for 'for .. := range f' over an iterator that keeps state of its own in cells: the caller's invariant must only abide the iterator's own steps (Ab), and a round must keep what the iterator asks (Kp). The encoding of integers as plain functions on numbers and lists of bytes, and its laws. wire.groups: the iterator over the 7-bit groups of a number, by its contract. wire.PutInt, by its contract: what it returns, and that nothing that was there is changed. wire.Int, by its contract (as XInt, for a seat without the reference). -/
import Derived.RangeFuncNested
import Derived.RangeFuncBound
import Derived.RangeFuncCalls
import Derived.RangeFuncLeaves
import Derived.Shelf.Abstract
import Derived.Shelf.RegionOpen
import Derived.WalkKit
import Derived.OwnWalkIn
import Derived.TacticsInMore
import Derived.LoopNIn
import Derived.LoopIn
import Derived.Test.YteilkigdlkeiaaaProg
import Derived.Laws.BitsAllLaws
import Derived.Lib.Hide
import Derived.RangeFuncBox
import Derived.Maps.AppendAt
import Derived.Laws.BytesArg
import Derived.OwnWalk
import Derived.Laws.DeepNot64
namespace Go.Proofs.Yteilkigdlkeiaaa.Rf
set_option linter.unusedVariables false
set_option linter.unusedSimpArgs false
open Go Go.RowKit

/-- What the iterator g promises every caller: J abides Ab; each round is handed the next element. -/
def Iter {α : Type} (P : Program) (g : Nat) (lb : Array Value) (encs : α → Array Value) (Ab Kp : World → World → Prop) (Nx : List α → α → Prop) (S Sp : List α → Prop) (l : Nat) (W : World) : Prop :=
  ∀ (J Jx : List α → World → Prop), (∀ s A B, J s A → Ab A B → J s B) → (∀ s A B, Jx s A → Ab A B → Jx s B) →
    (∀ pre x W1, Nx pre x → J pre W1 → YieldAt Fence.wide 0 P l (encs x) W1 fun e W' =>
      (e = .returned (.bool true) ∧ J (pre ++ [x]) W' ∧ Kp W1 W') ∨ (e = .returned (.bool false) ∧ Jx (pre ++ [x]) W')) →
    J [] W →
    CallsIn Fence.wide 0 P g (#[.func (.yield l) #[] #[]] ++ lb) W fun e W' => (∃ v, e = .returned v) ∧ ((∃ xs, S xs ∧ J xs W') ∨ (∃ pre, Sp pre ∧ Jx pre W'))

/-- How a round's body may be left. -/
def bodyEnds {α : Type} (Kp : World → World → Prop) (I : List α → World → Prop) (Ix : Code → List α → World → Prop) (xs : List α) (W : World) : Exit → Act → World → Prop
  | .normal, _, W' => KeepsOthers W W' ∧ Kp W W' ∧ I xs W'
  | .ret, _, W' => KeepsOthers W W' ∧ Ix .ret xs W'
  | .exit id, _, W' => KeepsOthers W W' ∧ Ix (.exit id) xs W'
  | .goto t, _, W' => KeepsOthers W W' ∧ Ix (.goto t) xs W'
  | .panic _, _, _ => False
  | .outgrown, _, _ => False

/-- The caller's invariant abides the loop's own book-keeping: blocks that hold no cells, from B on. -/
def Books {β : Type} (B : Nat) (I : β → World → Prop) : Prop :=
  (∀ s W o, I s W → I s (W.alloc o)) ∧ (∀ s W l o o', I s W → B ≤ l → W.heap[l]? = some o → o.isCells = false → I s (W.putObj l o'))

theorem Books.of_ownFrom {β : Type} {B : Nat} {I : β → World → Prop} (h : OwnFrom B I) : Books B I :=
  ⟨fun _ _ _ hs => h.alloc _ hs, fun _ _ _ _ _ hs hB hl ho => h.putObj _ hs hB hl ho⟩

set_option maxHeartbeats 1000000 in
theorem law {α : Type} {P : Program} {g : Operand} {ps : Array Tmp} {assign body : Code} {Q : Exit → Act → World → Prop} {a : Act} {w : World}
    {gf : Nat} {lb : Array Value} (hg : a.eval g = .func (.func gf) #[] lb) (eg : ∀ args w, (callFunc gf args).run P w = .ok (.enter gf args) w)
    {encs : α → Array Value} {Ab Kp : World → World → Prop} {Nx : List α → α → Prop} {S Sp : List α → Prop}
    (hit : ∀ (l : Nat) (W1 : World), w.heap.size < l → Below w.heap.size w W1 → W1.heap.size = w.heap.size + 2 → Iter P gf lb encs Ab Kp Nx S Sp l W1)
    (hAb : ∀ (A B : World), Ab A B → ∀ (k : Nat) (o : Obj), w.heap.size ≤ k → A.heap[k]? = some o → o.isCells = false → B.heap[k]? = some o)
    (hKt : ∀ {A B C : World}, Kp A B → Kp B C → Kp A C)
    (hKb : ∀ (W : World) (l : Nat) (o o' : Obj), w.heap.size ≤ l → W.heap[l]? = some o → o.isCells = false → Kp W (W.putObj l o'))
    (hps : ∀ x, (encs x).size = ps.size)
    (I : List α → World → Prop) (Ix : Code → List α → World → Prop)
    (hIa : ∀ s A B, I s A → Ab A B → I s B) (hIxa : ∀ c s A B, Ix c s A → Ab A B → Ix c s B)
    (hI : Books w.heap.size I) (hIx : ∀ c, Books w.heap.size (Ix c)) (h0 : I [] w) (a₁ : α → Act)
    (hassign : ∀ (l : Nat) (x : α) (W : World) (K : Act → World → Prop), K (a₁ x) W →
      assign.wpIn (Fence.wide.inRound l) 0 P (Exit.then K (fun _ _ _ => False)) { tmps := (ps.zip (encs x)).foldl (fun t (p, v) => t.setIfInBounds p v) a.tmps, defers := [] } W)
    (hbody : ∀ (l : Nat) (pre : List α) (x : α) (W : World), Nx pre x → I pre W → body.wpIn (Fence.wide.inRound l) 0 P (bodyEnds Kp I Ix (pre ++ [x]) W) (a₁ x) W)
    (hdone : ∀ (D : Nat) (xs : List α) (W : World), w.heap.size ≤ D → S xs → I xs W → W.heap[D]? = some (.deferred (some [])) → Q .normal { a with defers := { target := .collected D, args := #[] } :: a.defers } W)
    (hstop : ∀ (D : Nat) (c : Code) (pre : List α) (W : World), w.heap.size ≤ D → Sp pre → Ix c pre W → W.heap[D]? = some (.deferred (some [])) → c.wpIn Fence.wide 0 P Q { a with defers := { target := .collected D, args := #[] } :: a.defers } W) :
    (Code.rangeFunc g ps assign body).wpIn Fence.wide 0 P Q a w := by
  refine wpIn_rangeFunc ?_
  intro fn _
  obtain ⟨rec, hrec⟩ : ∃ rec : LoopState → Option Code → Loop, rec = fun st pe => { state := st, pending := pe, fn, tmps := a.tmps, params := ps, assign, body, defers := w.heap.size } := ⟨_, rfl⟩
  have hst : ∀ st pe, (rec st pe).state = st := fun st pe => by rw [hrec]
  have hpe : ∀ st pe, (rec st pe).pending = pe := fun st pe => by rw [hrec]
  have hset : ∀ st pe st' pe', ({ rec st pe with state := st', pending := pe' } : Loop) = rec st' pe' := fun st pe st' pe' => by rw [hrec]
  have hset1 : ∀ st pe st', ({ rec st pe with state := st' } : Loop) = rec st' pe := fun st pe st' => by rw [hrec]
  let D := w.heap.size
  let l := w.heap.size + 1
  -- the two blocks of book-keeping
  let Bk : Loop → World → Prop := fun r W => W.heap[l]? = some (.loop r) ∧ W.heap[D]? = some (.deferred (some []))
  have hBkA : ∀ r A B, Bk r A → Ab A B → Bk r B := fun r A B h hab => ⟨hAb A B hab _ _ (by omega) h.1 rfl, hAb A B hab _ _ (by omega) h.2 rfl⟩
  have hBkP : ∀ r r' A, Bk r A → Bk r' (A.putObj l (.loop r')) := fun r r' A h =>
    ⟨World.putObj_heap_same (Array.getElem?_eq_some_iff.1 h.1).1, (World.putObj_heap_other (by show w.heap.size ≠ w.heap.size + 1; omega)).trans h.2⟩
  let W1 := (w.alloc (.deferred (some []))).alloc (.loop (rec .ready none))
  have hBk1 : Bk (rec .ready none) W1 := by
    refine ⟨?_, ?_⟩
    · have := World.alloc_heap_new (w.alloc (.deferred (some []))) (.loop (rec .ready none))
      rw [World.size_alloc] at this; exact this
    · exact (Below.heap_alloc _ _ _ (by simp [D])).trans (World.alloc_heap_new w _)
  have hI1 : I [] W1 := hI.1 _ _ _ (hI.1 _ _ _ h0)
  have hb1 : Below w.heap.size w W1 := ((Below.refl _ w).alloc (Nat.le_refl _) _).alloc (by simp) _
  refine ⟨l, [{ target := .collected D, args := #[] }], W1, { target := .fn (.func gf) lb, args := #[.func (.yield l) #[] #[]] }, W1, gf,
    #[.func (.yield l) #[] #[]] ++ lb, W1, ?_, ?_, fun _ _ => trivial, ?_, fun h => by simp [Fence.wide] at h, ?_⟩
  · have := run_enterLoop_outer (P := P) (w := w) fn a.tmps ps assign body
    rw [show (Fence.wide).round = none from rfl]
    simp only [W1, l, D, hrec]; exact this
  · simp only [resolve, hg]
    simp [go_sem]
  · simp [invoke, go_sem, eg]
  · refine (hit l W1 (Nat.lt_succ_self _) hb1 (by simp [W1]) (fun pre W => I pre W ∧ Bk (rec .ready none) W) (fun pre W => ∃ c, Ix c pre W ∧ Bk (rec .done (some c)) W)
      (fun s A B h hab => ⟨hIa s A B h.1 hab, hBkA _ _ _ h.2 hab⟩) (fun s A B ⟨c, h1, h2⟩ hab => ⟨c, hIxa c s A B h1 hab, hBkA _ _ _ h2 hab⟩) ?_ ⟨hI1, hBk1⟩).mono ?_
    · rintro pre x W hnx ⟨hi, hbk⟩
      have hy := run_yield (P := P) (args := encs x) hbk.1 (by rw [hrec]; exact hps x)
      rw [show (rec .ready none).fn = fn by rw [hrec], show (rec .ready none).params = ps by rw [hrec], show (rec .ready none).tmps = a.tmps by rw [hrec], show (rec .ready none).assign = assign by rw [hrec],
        show (rec .ready none).body = body by rw [hrec]] at hy
      have hbr := run_beginRound (P := P) hbk.1 (hst _ _)
      rw [hset1] at hbr
      refine ⟨fn, _, assign, body, hy, roundIn_of_wpIn trivial (hassign _ x W _ ⟨_, hbr, ?_⟩)⟩
      have hbk2 : Bk (rec .busy none) (W.putObj l (.loop (rec .busy none))) := hBkP _ _ _ hbk
      refine wpIn_mono (hbody _ pre x _ hnx (hI.2 _ _ _ _ _ hi (by show w.heap.size ≤ w.heap.size + 1; omega) hbk.1 rfl)) ?_
      have hw2 : Kp W (W.putObj l (.loop (rec .busy none))) := hKb _ _ _ _ (by show w.heap.size ≤ w.heap.size + 1; omega) hbk.1 rfl
      have fin : ∀ (jump : Option Code) (W3 : World), KeepsOthers (W.putObj l (.loop (rec .busy none))) W3 →
          Bk (rec .busy none) W3 ∧ (Instr.endRound l jump).run P W3 = .ok (.bool jump.isNone) (W3.putObj l (.loop (rec (if jump.isNone then .ready else .done) jump))) := fun jump W3 hk3 => by
        have hb3 : Bk (rec .busy none) W3 := ⟨hk3.same _ _ hbk2.1 rfl, hk3.same _ _ hbk2.2 rfl⟩
        have := run_endRound (P := P) jump hb3.1
        rw [hset] at this
        exact ⟨hb3, this⟩
      have leave : ∀ (c : Code) (W3 : World), KeepsOthers (W.putObj l (.loop (rec .busy none))) W3 → Ix c (pre ++ [x]) W3 →
          ∃ v w', (Instr.endRound l (some c)).run P W3 = .ok v w' ∧ ((Ending.returned v = .returned (.bool true) ∧ (I (pre ++ [x]) w' ∧ Bk (rec .ready none) w') ∧ Kp W w') ∨ (Ending.returned v = .returned (.bool false) ∧ ∃ c, Ix c (pre ++ [x]) w' ∧ Bk (rec .done (some c)) w')) := fun c W3 hk3 hi3 => by
        obtain ⟨hb3, hr⟩ := fin (some c) W3 hk3
        exact ⟨_, _, hr, .inr ⟨rfl, c, (hIx c).2 _ _ _ _ _ hi3 (by show w.heap.size ≤ w.heap.size + 1; omega) hb3.1 rfl, hBkP _ _ _ hb3⟩⟩
      intro e a3 W3 hp
      cases e with
      | normal =>
        obtain ⟨hk3, hkp3, hi3⟩ := hp
        obtain ⟨hb3, hr⟩ := fin none W3 hk3
        exact ⟨_, _, hr, .inl ⟨rfl, ⟨hI.2 _ _ _ _ _ hi3 (by show w.heap.size ≤ w.heap.size + 1; omega) hb3.1 rfl, hBkP _ _ _ hb3⟩, hKt (hKt hw2 hkp3) (hKb _ _ _ _ (by show w.heap.size ≤ w.heap.size + 1; omega) hb3.1 rfl)⟩⟩
      | ret => exact leave .ret W3 hp.1 hp.2
      | exit id => exact leave (.exit id) W3 hp.1 hp.2
      | goto t => exact leave (.goto t) W3 hp.1 hp.2
      | panic ch => exact hp.elim
      | outgrown => exact hp.elim
    · rintro e W2 ⟨⟨v, rfl⟩, (⟨xs, hS, hi, hbk⟩ | ⟨pre, hSp, c, hi, hbk⟩)⟩
      · refine ⟨none, _, by have := run_endLoop (P := P) hbk.1 (by rw [hst]; simp); rw [hpe] at this; exact this, hdone D xs _ (Nat.le_refl _) hS (hI.2 _ _ _ _ _ hi (by show w.heap.size ≤ w.heap.size + 1; omega) hbk.1 rfl) ?_⟩
        exact (World.putObj_heap_other (by show w.heap.size ≠ w.heap.size + 1; omega)).trans hbk.2
      · refine ⟨some c, _, by have := run_endLoop (P := P) hbk.1 (by rw [hst]; simp); rw [hpe] at this; exact this, hstop D c pre _ (Nat.le_refl _) hSp ((hIx c).2 _ _ _ _ _ hi (by show w.heap.size ≤ w.heap.size + 1; omega) hbk.1 rfl) ?_⟩
        exact (World.putObj_heap_other (by show w.heap.size ≠ w.heap.size + 1; omega)).trans hbk.2

end Go.Proofs.Yteilkigdlkeiaaa.Rf

namespace Go.Proofs.Yteilkigdlkeiaaa.Leb
set_option linter.unusedVariables false
set_option linter.unusedSimpArgs false

/-- the number that is encoded for n -/
def zig (n : Int) : Nat := if n < 0 then (-2 * n - 1).toNat else (2 * n).toNat
/-- the integer for which z is encoded -/
def unzig (z : Nat) : Int := if z % 2 = 1 then -((z / 2 : Nat) : Int) - 1 else ((z / 2 : Nat) : Int)
theorem unzig_zig (n : Int) : unzig (zig n) = n := by unfold unzig zig; split <;> split <;> omega
theorem zig_unzig (z : Nat) : zig (unzig z) = z := by unfold unzig zig; split <;> split <;> omega
theorem zig_inj {m n : Int} (h : zig m = zig n) : m = n := by rw [← unzig_zig m, h, unzig_zig]

/-- unsigned LEB128 -/
def leb (z : Nat) : List UInt8 :=
  if h : z < 128 then [UInt8.ofNat z] else UInt8.ofNat (z % 128 + 128) :: leb (z / 128)
  termination_by z
  decreasing_by omega
theorem leb_lt {z : Nat} (h : z < 128) : leb z = [UInt8.ofNat z] := by rw [leb]; simp [h]
theorem leb_ge {z : Nat} (h : ¬ z < 128) : leb z = UInt8.ofNat (z % 128 + 128) :: leb (z / 128) := by rw [leb]; simp [h]
theorem leb_ne (z : Nat) : leb z ≠ [] := by rw [leb]; split <;> simp
theorem leb_pos (z : Nat) : 0 < (leb z).length := List.length_pos_iff.2 (leb_ne z)
theorem leb_len : ∀ (f z : Nat), z < 128 ^ (f + 1) → (leb z).length ≤ f + 1
  | 0, z, h => by rw [leb_lt (by simpa using h)]; simp
  | f + 1, z, h => by
    by_cases hz : z < 128
    · rw [leb_lt hz]; simp
    · rw [leb_ge hz]
      have := leb_len f (z / 128) (by rw [Nat.pow_succ] at h; omega)
      simp; omega

/-- reading: at most f groups; the value and how many bytes; none where it does not end, or has a superfluous zero group -/
def rd : Nat → List UInt8 → Option (Nat × Nat)
  | 0, _ => none
  | _ + 1, [] => none
  | f + 1, b :: t => if b.toNat < 128 then some (b.toNat, 1) else match rd f t with
    | none => none
    | some (z, k) => if z = 0 then none else some (b.toNat - 128 + 128 * z, k + 1)

theorem toNat_ofNat_lt {n : Nat} (h : n < 256) : (UInt8.ofNat n).toNat = n := by simp [UInt8.toNat_ofNat']; omega

/-- what was encoded is read, whatever follows -/
theorem rd_leb (q : List UInt8) : ∀ (f z : Nat), (leb z).length ≤ f → rd f (leb z ++ q) = some (z, (leb z).length)
  | 0, z, h => by have := leb_pos z; omega
  | f + 1, z, h => by
    by_cases hz : z < 128
    · rw [leb_lt hz]; simp [rd, toNat_ofNat_lt (show z < 256 by omega), hz]
    · rw [leb_ge hz] at h ⊢
      have ih := rd_leb q f (z / 128) (by simp at h; omega)
      simp only [List.cons_append, rd, toNat_ofNat_lt (show z % 128 + 128 < 256 by omega), ih, List.length_cons]
      rw [if_neg (by omega), if_neg (by omega)]
      simp; omega

/-- what is read is what was encoded -/
theorem rd_sound : ∀ (f : Nat) (l : List UInt8) (z k : Nat), rd f l = some (z, k) → l.take k = leb z ∧ k ≤ l.length ∧ k ≤ f ∧ k = (leb z).length
  | 0, l, z, k, h => by simp [rd] at h
  | f + 1, [], z, k, h => by simp [rd] at h
  | f + 1, b :: t, z, k, h => by
    simp only [rd] at h
    by_cases hb : b.toNat < 128
    · rw [if_pos hb] at h
      simp only [Option.some.injEq, Prod.mk.injEq] at h
      obtain ⟨rfl, rfl⟩ := h
      rw [leb_lt hb]
      simp
    · rw [if_neg hb] at h
      cases hr : rd f t with
      | none => rw [hr] at h; simp at h
      | some p =>
        obtain ⟨z', k'⟩ := p
        rw [hr] at h
        simp only at h
        by_cases hz : z' = 0
        · rw [if_pos hz] at h; simp at h
        · rw [if_neg hz] at h
          simp only [Option.some.injEq, Prod.mk.injEq] at h
          obtain ⟨rfl, rfl⟩ := h
          obtain ⟨h1, h2, h3, h4⟩ := rd_sound f t z' k' hr
          have hlt : b.toNat < 256 := b.toNat_lt
          have e1 : (b.toNat - 128 + 128 * z') % 128 + 128 = b.toNat := by omega
          have e2 : (b.toNat - 128 + 128 * z') / 128 = z' := by omega
          rw [leb_ge (by omega), e1, e2]
          refine ⟨?_, by simp; omega, by omega, by simp [h4]⟩
          rw [List.take_succ_cons, h1]
          simp

theorem rd_bound : ∀ (f : Nat) (l : List UInt8) (z k : Nat), rd f l = some (z, k) → z < 128 ^ f
  | 0, l, z, k, h => by simp [rd] at h
  | f + 1, [], z, k, h => by simp [rd] at h
  | f + 1, b :: t, z, k, h => by
    simp only [rd] at h
    have hp : 0 < 128 ^ f := Nat.pow_pos (by decide)
    by_cases hb : b.toNat < 128
    · rw [if_pos hb] at h
      simp only [Option.some.injEq, Prod.mk.injEq] at h
      obtain ⟨rfl, rfl⟩ := h
      rw [Nat.pow_succ]; omega
    · rw [if_neg hb] at h
      cases hr : rd f t with
      | none => rw [hr] at h; simp at h
      | some p =>
        obtain ⟨z', k'⟩ := p
        rw [hr] at h
        simp only at h
        by_cases hz : z' = 0
        · rw [if_pos hz] at h; simp at h
        · rw [if_neg hz] at h
          simp only [Option.some.injEq, Prod.mk.injEq] at h
          obtain ⟨rfl, rfl⟩ := h
          have := rd_bound f t z' k' hr
          have hlt : b.toNat < 256 := b.toNat_lt
          rw [Nat.pow_succ]; omega

/-- the bound on integers -/
def Max : Int := 4611686018427387903
def InRange (n : Int) : Prop := -4611686018427387903 ≤ n ∧ n ≤ 4611686018427387903
instance (n : Int) : Decidable (InRange n) := inferInstanceAs (Decidable (_ ∧ _))
theorem pow9 : (128 : Nat) ^ (8 + 1) = 9223372036854775808 := by decide
theorem zig_lt {n : Int} (h : InRange n) : zig n < 9223372036854775808 := by unfold InRange at h; unfold zig; split <;> omega
theorem zig_len {n : Int} (h : InRange n) : (leb (zig n)).length ≤ 9 := leb_len 8 _ (by rw [pow9]; exact zig_lt h)

/-- the encoding of an integer, with its error -/
def putL (n : Int) : List UInt8 × Int := if InRange n then (leb (zig n), 0) else ([], 10)
/-- the integer whose encoding a list begins with, and its length -/
def dec (l : List UInt8) : Option (Int × Nat) := match rd 9 l with
  | none => none
  | some (z, k) => if InRange (unzig z) then some (unzig z, k) else none
/-- Int: value, end, error -/
def intL (l : List UInt8) (at_ : Int) : Int × Int × Int :=
  if at_ < 0 ∨ (l.length : Int) < at_ then (0, 0, 2) else match dec (l.drop at_.toNat) with
    | none => (0, 0, 10)
    | some (n, k) => (n, at_ + k, 0)

theorem dec_leb {n : Int} (h : InRange n) (q : List UInt8) : dec (leb (zig n) ++ q) = some (n, (leb (zig n)).length) := by
  unfold dec
  rw [rd_leb q 9 _ (zig_len h)]
  simp only [unzig_zig]
  rw [if_pos h]
theorem dec_sound {l : List UInt8} {n : Int} {k : Nat} (h : dec l = some (n, k)) : InRange n ∧ l.take k = leb (zig n) ∧ k = (leb (zig n)).length ∧ k ≤ l.length := by
  unfold dec at h
  cases hr : rd 9 l with
  | none => rw [hr] at h; simp at h
  | some p =>
    obtain ⟨z, k'⟩ := p
    rw [hr] at h
    simp only at h
    by_cases hz : InRange (unzig z)
    · rw [if_pos hz] at h
      simp only [Option.some.injEq, Prod.mk.injEq] at h
      obtain ⟨rfl, rfl⟩ := h
      obtain ⟨h1, h2, _, h4⟩ := rd_sound 9 l z k' hr
      rw [zig_unzig]
      exact ⟨hz, h1, h4, h2⟩
    · rw [if_neg hz] at h; simp at h

/-- what is left to be read after i groups, whose value is acc -/
def cont (i acc : Nat) : Option (Nat × Nat) → Option (Nat × Nat)
  | none => none
  | some (z, k) => if 0 < i ∧ z = 0 then none else some (acc + 128 ^ i * z, i + k)
theorem cont_zero (r : Option (Nat × Nat)) : cont 0 0 r = r := by
  cases r with
  | none => rfl
  | some p => simp [cont]
theorem cont_more (i acc f : Nat) (b : UInt8) (t : List UInt8) (hb : ¬ b.toNat < 128) : cont i acc (rd (f + 1) (b :: t)) = cont (i + 1) (acc + 128 ^ i * (b.toNat - 128)) (rd f t) := by
  simp only [rd]
  rw [if_neg hb]
  cases hr : rd f t with
  | none => rfl
  | some p =>
    obtain ⟨z, k⟩ := p
    simp only [cont]
    by_cases hz : z = 0
    · rw [if_pos hz, if_pos ⟨by omega, hz⟩]
    · rw [if_neg hz, if_neg (by omega)]
      simp only
      rw [if_neg (by omega)]
      have h1 : acc + 128 ^ i * (b.toNat - 128 + 128 * z) = acc + 128 ^ i * (b.toNat - 128) + 128 ^ (i + 1) * z := by
        rw [Nat.pow_succ, Nat.mul_add, Nat.mul_assoc]; omega
      have h2 : i + (k + 1) = i + 1 + k := by omega
      rw [h1, h2]
theorem cont_last (i acc f : Nat) (b : UInt8) (t : List UInt8) (hb : b.toNat < 128) : cont i acc (rd (f + 1) (b :: t)) = if 0 < i ∧ b.toNat = 0 then none else some (acc + 128 ^ i * b.toNat, i + 1) := by
  simp only [rd]; rw [if_pos hb]; rfl

/-! ### what a reader's loop comes to, round by round -/
theorem intL_in {l : List UInt8} {p : Nat} (hp : p ≤ l.length) : intL l p = match dec (l.drop p) with
    | none => (0, 0, 10)
    | some (n, k) => (n, p + k, 0) := by
  unfold intL; rw [if_neg (by omega), Int.toNat_natCast]
theorem intL_none {l : List UInt8} {p : Nat} (hp : p ≤ l.length) (h : rd 9 (l.drop p) = none) : intL l p = (0, 0, 10) := by
  rw [intL_in hp]; unfold dec; rw [h]
theorem intL_end {l : List UInt8} {p k acc : Nat} (hp : p ≤ l.length) (h : rd 9 (l.drop p) = cont k acc (rd (9 - k) (l.drop (p + k)))) (hl : l.length ≤ p + k) : intL l p = (0, 0, 10) := by
  refine intL_none hp ?_
  rw [h, List.drop_eq_nil_of_le hl]
  cases 9 - k <;> rfl
theorem intL_nine {l : List UInt8} {p acc : Nat} (hp : p ≤ l.length) (h : rd 9 (l.drop p) = cont 9 acc (rd (9 - 9) (l.drop (p + 9)))) : intL l p = (0, 0, 10) := intL_none hp (by rw [h]; rfl)
theorem rd_more {l : List UInt8} {p k acc : Nat} (h : rd 9 (l.drop p) = cont k acc (rd (9 - k) (l.drop (p + k)))) (hk : k < 9) (hlt : p + k < l.length) (hb : ¬ (l[p + k]).toNat < 128) :
    rd 9 (l.drop p) = cont (k + 1) (acc + 128 ^ k * ((l[p + k]).toNat - 128)) (rd (9 - (k + 1)) (l.drop (p + (k + 1)))) := by
  rw [h, List.drop_eq_getElem_cons hlt, show 9 - k = (9 - (k + 1)) + 1 by omega, cont_more _ _ _ _ _ hb]
  rfl
theorem rd_last {l : List UInt8} {p k acc : Nat} (h : rd 9 (l.drop p) = cont k acc (rd (9 - k) (l.drop (p + k)))) (hk : k < 9) (hlt : p + k < l.length) (hb : (l[p + k]).toNat < 128) :
    rd 9 (l.drop p) = if 0 < k ∧ (l[p + k]).toNat = 0 then none else some (acc + 128 ^ k * (l[p + k]).toNat, k + 1) := by
  rw [h, List.drop_eq_getElem_cons hlt, show 9 - k = (9 - (k + 1)) + 1 by omega, cont_last _ _ _ _ _ hb]
theorem intL_some {l : List UInt8} {p k z : Nat} (hp : p ≤ l.length) (h : rd 9 (l.drop p) = some (z, k)) : intL l p = if unzig z < -4611686018427387903 then (0, 0, 10) else (unzig z, (p : Int) + (k : Nat), 0) := by
  have hz := rd_bound 9 _ _ _ h
  rw [pow9] at hz
  rw [intL_in hp]; unfold dec; rw [h]
  simp only
  by_cases hn : unzig z < -4611686018427387903
  · rw [if_pos hn, if_neg (by unfold InRange; omega)]
  · have : InRange (unzig z) := by unfold InRange; unfold unzig at hn ⊢; split at hn <;> omega
    rw [if_neg hn, if_pos this]

/-- a reader that compares with the encoding reads the same -/
theorem ref_ends {l : List UInt8} {p k z : Nat} {c : Prop} [Decidable c] {n : Int} (hp : p ≤ l.length) (hk : k < 9) (hn : unzig z = n) (h : rd 9 (l.drop p) = if c then none else some (z, k + 1)) :
    ((putL n).2 ≠ 0 → intL l p = (0, 0, 10)) ∧ ((putL n).2 = 0 → (putL n).1 ≠ (l.drop p).take (k + 1) → intL l p = (0, 0, 10)) ∧ ((putL n).2 = 0 → (putL n).1 = (l.drop p).take (k + 1) → intL l p = (n, (p : Int) + (k + 1 : Nat), 0)) := by
  subst hn
  by_cases hc : c
  · rw [if_pos hc] at h
    refine ⟨fun _ => intL_none hp h, fun _ _ => intL_none hp h, fun h0 he => ?_⟩
    exfalso
    by_cases hr : InRange (unzig z)
    · rw [putL, if_pos hr, zig_unzig] at he
      have hl : (leb z).length ≤ 9 := by rw [← zig_unzig z]; exact zig_len hr
      have := rd_leb ((l.drop p).drop (k + 1)) 9 z hl
      rw [show leb z = (l.drop p).take (k + 1) from he, List.take_append_drop, h] at this
      cases this
    · rw [putL, if_neg hr] at h0; simp at h0
  · rw [if_neg hc] at h
    have h2 := intL_some hp h
    have hz := rd_bound 9 _ _ _ h
    rw [pow9] at hz
    obtain ⟨hs, _, _, _⟩ := rd_sound 9 _ _ _ h
    by_cases hr : InRange (unzig z)
    · have h3 : ¬ unzig z < -4611686018427387903 := by unfold InRange at hr; omega
      rw [if_neg h3] at h2
      refine ⟨fun h0 => ?_, fun _ he => ?_, fun _ _ => h2⟩
      · rw [putL, if_pos hr] at h0; simp at h0
      · rw [putL, if_pos hr, zig_unzig] at he; exact absurd hs.symm he
    · have h3 : unzig z < -4611686018427387903 := by
        unfold InRange at hr
        unfold unzig at hr ⊢
        split at hr <;> omega
      rw [if_pos h3] at h2
      refine ⟨fun _ => h2, fun _ _ => h2, fun h0 _ => ?_⟩
      rw [putL, if_neg hr] at h0; simp at h0

/-! ### strings -/
/-- the encoding of a string, with its error -/
def putS (l : List UInt8) : List UInt8 × Int := if l.length ≤ 65536 then (leb (2 * l.length) ++ l, 0) else ([], 10)
/-- String: value, end, error -/
def strL (l : List UInt8) (at_ : Int) : List UInt8 × Int × Int :=
  match intL l at_ with
  | (n, next, e) => if e ≠ 0 then ([], 0, e) else if n < 0 ∨ 65536 < n ∨ (l.length : Int) - next < n then ([], 0, 10) else ((l.drop next.toNat).take n.toNat, next + n, 0)
theorem zig_nat (n : Nat) : zig (n : Int) = 2 * n := by unfold zig; rw [if_neg (by omega)]; omega

end Go.Proofs.Yteilkigdlkeiaaa.Leb

namespace Go.Proofs.Yteilkigdlkeiaaa.Groups
set_option linter.unusedVariables false
set_option linter.unusedSimpArgs false
open Go Go.RowKit
attribute [local go_sem] Oper.semAt_some
theorem wide_depth : Fence.wide.depth = none := rfl
attribute [local go_sem] wide_depth

/-- the groups of z, the least one first; is it the last one -/
def grp (z : Nat) : List (Nat × Bool) :=
  if h : z < 128 then [(z, true)] else (z % 128, false) :: grp (z / 128)
  termination_by z
  decreasing_by omega

theorem grp_lt {z : Nat} (h : z < 128) : grp z = [(z, true)] := by rw [grp]; simp [h]
theorem grp_ge {z : Nat} (h : ¬ z < 128) : grp z = (z % 128, false) :: grp (z / 128) := by rw [grp]; simp [h]

abbrev encs (x : Nat × Bool) : Array Value := #[.int .u8 x.1, .bool x.2]

def Nx (z : Nat) (pre : List (Nat × Bool)) (x : Nat × Bool) : Prop := pre ++ [x] <+: grp z
def Ab (B : Nat) (W W' : World) : Prop := ∃ v, W' = W.setCell ⟨B, 0, none⟩ v
def Kp (B : Nat) (W W' : World) : Prop := W'.heap[B]? = W.heap[B]?

theorem kp_cell {B : Nat} {W W' : World} (h : Kp B W W') (o : Nat) : W'.cell? ⟨B, o, none⟩ = W.cell? ⟨B, o, none⟩ := World.cell?_of_block h
theorem kp_frozen {B : Nat} {W W' : World} (h : Kp B W W') (o : Nat) : W'.frozen? ⟨B, o, none⟩ = W.frozen? ⟨B, o, none⟩ := World.frozen?_of_block h

/-- a number that an uint64 holds -/
def U64 (y : Nat) : Prop := y < 18446744073709551616

theorem and127 (y : Nat) (h : U64 y) : bits BinOp.and IntKind.u64 (y : Int) 127 % 256 = ((y % 128 : Nat) : Int) := by
  have := u64_and_nat y 127 h (by decide)
  rw [show ((127 : Nat) : Int) = 127 from rfl] at this
  rw [this, show y &&& 127 = y % 128 from Nat.and_two_pow_sub_one_eq_mod y 7]
  omega

theorem groups1 (l Bz z : Nat) (W : World) (hz : U64 z) (hc : W.cell? ⟨Bz, 0, none⟩ = some (.int .u64 z)) (hf : W.frozen? ⟨Bz, 0, none⟩ = false) :
    Rf.Iter Try.prog 61 #[.pointer (some ⟨Bz, 0, none⟩)] encs (Ab Bz) (Kp Bz) (Nx z) (fun xs => xs = grp z) (fun pre => pre <+: grp z) l W := by
  intro J Jx hJ hJx hY h0
  refine callsIn_of_wp Try.func61 rfl trivial ?_ rfl
  simp only [Try.ntmps61, List.size_toArray, List.length_cons, List.length_nil, Nat.reduceAdd, Nat.reduceSub, Array.replicate_succ, Array.replicate_zero, List.push_toArray, List.append_toArray, List.nil_append, List.cons_append]
  gi_wp2
  gi_loopw [3] (fun _ wr => ∃ (pre : List (Nat × Bool)) (y : Nat), U64 y ∧ grp z = pre ++ grp y ∧ wr.cell? ⟨Bz, 0, none⟩ = some (.int .u64 y) ∧ wr.frozen? ⟨Bz, 0, none⟩ = false ∧ J pre wr)
    (fun _ wr => (intOf ((wr.cell? ⟨Bz, 0, none⟩).getD undef)).toNat)
  case atStart => exact ⟨[], z, hz, rfl, hc, hf, h0⟩
  case round =>
    obtain ⟨pre, y, hy, hg, hcy, hfy, hj⟩ := hrel
    have ha := and127 y hy
    have Hg := Lib.hid hg
    by_cases hlt : y < 128
    · obtain ⟨fn, tmps, assign, body, hyd, hR⟩ := hY pre (y, true) wr (by rw [Nx, hg, grp_lt hlt]; exact List.prefix_refl _) hj
      dsimp only [encs] at hyd
      rw [Nat.mod_eq_of_lt hlt] at ha
      have hd : decide ((y : Int) < 128) = true := decide_eq_true (by omega)
      clear hg
      gi_wp2
      refine hR.mono ?_
      rintro e W3 (⟨rfl, hJ3, hk3⟩ | ⟨rfl, hJx3⟩)
      · gi_wp2
        refine bodyPost_ret (results_none rfl _ _ _) rfl ?_
        exact ⟨⟨_, rfl⟩, .inl ⟨pre ++ [(y, true)], by rw [Hg.out, grp_lt hlt], hJ3⟩⟩
      · gi_wp2
        refine bodyPost_ret (results_none rfl _ _ _) rfl ?_
        exact ⟨⟨_, rfl⟩, .inr ⟨pre ++ [(y, true)], by rw [Hg.out, grp_lt hlt]; exact List.prefix_refl _, hJx3⟩⟩
    · obtain ⟨m, hm⟩ : ∃ m, y % 128 = m := ⟨_, rfl⟩
      rw [hm] at ha
      have Hm := Lib.hid hm
      have hg2 : grp z = pre ++ ((m, false) :: grp (y / 128)) := by rw [hg, grp_ge hlt, hm]
      have Hg2 := Lib.hid hg2
      obtain ⟨fn, tmps, assign, body, hyd, hR⟩ := hY pre (m, false) wr (by rw [Nx, hg2]; exact ⟨grp (y / 128), by simp⟩) hj
      clear hm hg2
      dsimp only [encs] at hyd
      have hd : decide ((y : Int) < 128) = false := decide_eq_false (by omega)
      clear hg
      gi_wp2
      refine hR.mono ?_
      rintro e W3 (⟨rfl, hJ3, hk3⟩ | ⟨rfl, hJx3⟩)
      · have hc3 : W3.cell? ⟨Bz, 0, none⟩ = some (.int .u64 y) := (kp_cell hk3 0).trans hcy
        have hf3 : W3.frozen? ⟨Bz, 0, none⟩ = false := (kp_frozen hk3 0).trans hfy
        have hs : (W3.setCell ⟨Bz, 0, none⟩ (.int .u64 ((y : Int) / 128))).cell? ⟨Bz, 0, none⟩ = some (.int .u64 ((y : Int) / 128)) :=
          World.cell?_setCell_same' _ _ _ (by rw [hc3]; rfl)
        have Hs := Lib.hid hs
        clear hs
        gi_wp2
        go_roundw
        case rel =>
          refine ⟨pre ++ [(m, false)], y / 128, ?_, by rw [Hg2.out]; simp, ?_, ?_, hJ _ _ _ hJ3 ⟨_, rfl⟩⟩
          · unfold U64 at *; omega
          · rw [Hs.out]; rfl
          · rw [World.frozen?_setCell]; exact hf3
        case measure =>
          rw [Hs.out, hcy]; simp [intOf]; omega
      · gi_wp2
        refine bodyPost_ret (results_none rfl _ _ _) rfl ?_
        exact ⟨⟨_, rfl⟩, .inr ⟨pre ++ [(m, false)], by rw [Hg2.out]; exact ⟨grp (y / 128), by simp⟩, hJx3⟩⟩

end Go.Proofs.Yteilkigdlkeiaaa.Groups

namespace Go.Proofs.Yteilkigdlkeiaaa.PutInt
set_option linter.unusedVariables false
set_option linter.unusedSimpArgs false
open Go Go.RowKit Go.Proofs.Yteilkigdlkeiaaa.Groups
open Go.Proofs.Yteilkigdlkeiaaa.Leb (zig leb leb_lt leb_ge putL InRange)
attribute [local go_sem] Oper.semAt_some wide_depth

theorem groups_in (F : Fence) (hF : F = Fence.wide) (z : Nat) (w : World) :
    CallsIn F 0 Try.prog 60 #[.int .u64 z] w fun e w' => e = .returned (.func (.func 61) #[] #[.pointer (some ⟨w.heap.size, 0, none⟩)]) ∧ w' = w.alloc (.cells #[.int .u64 z] 96) := by
  subst hF
  refine callsIn_of_wp Try.func60 rfl trivial ?_ rfl
  simp only [Try.ntmps60, List.size_toArray, List.length_cons, List.length_nil, Nat.reduceAdd, Nat.reduceSub, Array.replicate_succ, Array.replicate_zero, List.push_toArray, List.append_toArray, List.nil_append, List.cons_append]
  gi_wp2
  go_ret
  exact ⟨rfl, rfl⟩

theorem info_u8 : (Try.prog.info? 5).map (fun i => (i.zero, i.size, i.bytes)) = some (some (.int .u8 0), 1, 1) := by kernel_rfl

/-- a byte of the encoding -/
def enc1 (x : Nat × Bool) : Nat := if x.2 then x.1 else x.1 + 128
def outV (pre : List (Nat × Bool)) : List Value := pre.map fun x => .int .u8 (enc1 x)

theorem xor_ones (a : Nat) (h : a < 18446744073709551616) : a ^^^ 18446744073709551615 = 18446744073709551615 - a := by
  have h1 : (BitVec.ofNat 64 a ^^^ BitVec.allOnes 64).toNat = a ^^^ 18446744073709551615 := by
    rw [BitVec.toNat_xor, BitVec.toNat_allOnes, BitVec.toNat_ofNat, Nat.mod_eq_of_lt (by simpa using h)]
  have h2 : BitVec.ofNat 64 a ^^^ BitVec.allOnes 64 = ~~~ (BitVec.ofNat 64 a) := by
    rw [BitVec.not_def, BitVec.xor_comm]
  rw [← h1, h2, BitVec.toNat_not, BitVec.toNat_ofNat, Nat.mod_eq_of_lt (by simpa using h)]

theorem zig_bits (n : Int) (h1 : -4611686018427387903 ≤ n) (h2 : n ≤ 4611686018427387903) :
    bits BinOp.xor IntKind.u64 (IntKind.u64.wrap (IntKind.u64.wrap n * 2)) (IntKind.u64.wrap (n / 9223372036854775808)) = (zig n : Int) ∧ U64 (zig n) := by
  simp only [IntKind.wrap_u64]
  by_cases hn : n < 0
  · have e1 : (n % 18446744073709551616 * 2) % 18446744073709551616 = ((18446744073709551616 + 2 * n).toNat : Int) := by omega
    have e2 : (n / 9223372036854775808) % 18446744073709551616 = ((18446744073709551615 : Nat) : Int) := by omega
    rw [e1, e2, u64_xor_nat _ _ (by omega) (by decide), xor_ones _ (by omega), zig, if_pos hn]
    exact ⟨by omega, by unfold U64; omega⟩
  · have e1 : (n % 18446744073709551616 * 2) % 18446744073709551616 = ((2 * n).toNat : Int) := by omega
    have e2 : (n / 9223372036854775808) % 18446744073709551616 = ((0 : Nat) : Int) := by omega
    rw [e1, e2, u64_xor_nat _ _ (by omega) (by decide), Nat.xor_zero, zig, if_neg hn]
    exact ⟨rfl, by unfold U64; omega⟩

theorem outV_snoc (pre : List (Nat × Bool)) (x : Nat × Bool) : outV (pre ++ [x]) = outV pre ++ [.int .u8 (enc1 x)] := by simp [outV]

theorem grp_len : ∀ (f z : Nat), z < 128 ^ (f + 1) → (grp z).length ≤ f + 1
  | 0, z, h => by rw [grp_lt (by simpa using h)]; simp
  | f + 1, z, h => by
    by_cases hz : z < 128
    · rw [grp_lt hz]; simp
    · rw [grp_ge hz]
      have := grp_len f (z / 128) (by rw [Nat.pow_succ] at h; omega)
      simp; omega

theorem pow128 : (128 : Nat) ^ (9 + 1) = 1180591620717411303424 := by decide
theorem grp_small {z : Nat} (h : U64 z) : (grp z).length ≤ 10 := grp_len 9 z (by rw [pow128]; unfold U64 at h; omega)
theorem grp_next {z : Nat} {pre : List (Nat × Bool)} {x : Nat × Bool} (h : Nx z pre x) : x.1 < 128 := by
  have : ∀ (m z : Nat), z ≤ m → ∀ y ∈ grp z, y.1 < 128 := by
    intro m
    induction m with
    | zero => intro z hz y hy; rw [grp_lt (by omega)] at hy; simp at hy; subst hy; show z < 128; omega
    | succ m ih =>
      intro z hz y hy
      by_cases hl : z < 128
      · rw [grp_lt hl] at hy; simp at hy; subst hy; exact hl
      · rw [grp_ge hl] at hy
        rcases List.mem_cons.1 hy with rfl | hy
        · show z % 128 < 128; omega
        · exact ih (z / 128) (by omega) y hy
  exact this z z (Nat.le_refl _) x (h.subset (by simp))

theorem or128 (g : Nat) (h : g < 128) : bits BinOp.or IntKind.u8 (g : Int) 128 = ((g + 128 : Nat) : Int) := by
  have := u8_or_nat g 128 (by omega) (by decide)
  rw [show ((128 : Nat) : Int) = 128 from rfl] at this
  rw [this]
  have e : g ||| 128 = g + 128 := by
    have := Nat.two_pow_add_eq_or_of_lt (i := 7) (b := g) (by omega) 1
    rw [show 2 ^ 7 * 1 = 128 from rfl] at this
    rw [Nat.or_comm]; omega
  rw [e]

set_option maxRecDepth 100000 in
set_option maxHeartbeats 2000000 in
theorem good (n : Int) (w : World) (h1 : -4611686018427387903 ≤ n) (h2 : n ≤ 4611686018427387903) :
    Calls Try.prog 59 #[.int .i64 n] w fun e w' => ∃ s : ByteArray, e = .returned (.tuple #[.string s, .int .i64 0]) ∧ s.data.toList = (grp (zig n)).map (fun x => UInt8.ofNat (enc1 x)) ∧ Below w.heap.size w w' := by
  obtain ⟨hz, hu⟩ := zig_bits n h1 h2
  obtain ⟨i0, hi, hz0, hz1, hz2⟩ := info_parts info_u8
  refine callsIn_wide (n := 0) |>.1 ?_
  refine callsIn_of_wp_marks Try.func59 rfl trivial ?_ rfl
  simp only [Try.ntmps59, List.size_toArray, List.length_cons, List.length_nil, Nat.reduceAdd, Nat.reduceSub, Array.replicate_succ, Array.replicate_zero, List.push_toArray, List.append_toArray, List.nil_append, List.cons_append]
  have t1 : decide (n < -4611686018427387903) = false := decide_eq_false (by omega)
  have t2 : decide (4611686018427387903 < n) = false := decide_eq_false (by omega)
  have Hz := Lib.hid hz
  clear hz
  gi_wp2_with fail
  rw [Hz.out]
  clear Hz t1 t2
  generalize IntKind.u64.wrap (IntKind.u64.wrap n * 2) = v15
  generalize IntKind.u64.wrap n = v14
  generalize IntKind.u64.wrap (n / 9223372036854775808) = v18
  generalize n / 9223372036854775808 = v17
  generalize hzz : zig n = z at hu ⊢
  have Hzz := Lib.hid hzz
  clear hzz
  refine ⟨trivial, (groups_in _ rfl z _).mono ?_⟩
  rintro e w' ⟨rfl, rfl⟩
  gi_wp2_with fail
  have bO := Boxed.new w 69 (.slice none 0 0)
  have bN := Boxed.new (w.alloc (.cells #[.slice none 0 0] 69)) 96 (.int .u64 z)
  rw [World.size_alloc] at bN
  have hB0 : Below w.heap.size w ((w.alloc (.cells #[.slice none 0 0] 69)).alloc (.cells #[.int .u64 z] 96)) := ((Below.refl _ w).alloc (Nat.le_refl _) _).alloc (by simp) _
  refine Rf.law (gf := 61) (lb := #[.pointer (some ⟨w.heap.size + 1, 0, none⟩)]) rfl (enters_of Try.func61 (by kernel_rfl) rfl)
    (encs := encs) (Ab := Ab (w.heap.size + 1)) (Kp := Kp (w.heap.size + 1)) (Nx := Nx z) (S := fun xs => xs = grp z) (Sp := fun pre => pre <+: grp z)
    (fun l W1 _ hb _ => groups1 l (w.heap.size + 1) z W1 hu ((hb.cell (p := ⟨w.heap.size + 1, 0, none⟩) (by simp)).trans bN.cell) ((hb.frozen (p := ⟨w.heap.size + 1, 0, none⟩) (by simp)).trans bN.frozen))
    ?hAb (fun h k => k.trans h) ?hKb (fun _ => rfl)
    (fun pre W => ((∃ v, Boxed W w.heap.size 69 v ∧ W.ownsRow w.heap.size 5 1 v pre.length (outV pre) ∧ (v = .slice none 0 0 ↔ pre = [])) ∧ ∃ zv, Boxed W (w.heap.size + 1) 96 zv) ∧ Below w.heap.size w W)
    (fun _ _ _ => False) ?hIa (fun _ _ _ _ h _ => h) ?hI (fun _ => ⟨fun _ _ _ h => h, fun _ _ _ _ _ h _ _ _ => h⟩) ?h0
    (fun x => { tmps := #[.int .i64 n, undef, .string ⟨#[]⟩, .int .i64 0, .pointer (some ⟨w.heap.size, 0, none⟩), .int .u8 x.1, .bool x.2, .int .i64 n, .bool false, .bool false, .int .i64 n, .bool false, .bool false, .int .i64 n, .int .u64 v14, .int .u64 v15, .int .i64 n, .int .i64 v17, .int .u64 v18, .int .u64 z, .func (.func 61) #[] #[.pointer (some ⟨w.heap.size + 1, 0, none⟩)], .int .u8 x.1, .bool x.2, undef, undef, undef, undef, undef, undef, undef, undef, undef, undef], defers := [] }) ?assign ?body ?done ?stop
  case hAb =>
    rintro A B ⟨v, rfl⟩ k o hk ho hc
    exact (KeepsOthers.setCell A _ v).same k o ho hc
  case hKb =>
    intro W l o o' hl ho hc
    refine World.putObj_heap_other ?_
    simp at hl; omega
  case hIa =>
    rintro pre A B ⟨⟨⟨v, hv, hr, hn⟩, zv, hzv⟩, hb⟩ ⟨u, rfl⟩
    refine ⟨⟨⟨v, hv.other (by omega) _, hr.kept (grownBy_setCell' A _ _) (.inr (hzv.not_row (by decide) hr).symm), hn⟩, _, hzv.set u⟩, hb.setCell (p := ⟨w.heap.size + 1, 0, none⟩) (by show w.heap.size ≤ w.heap.size + 1; omega) u⟩
  case hI =>
    refine Rf.Books.of_ownFrom (OwnFrom.and (OwnFrom.and (Own.from (holdsRow_own w.heap.size w.heap.size 69 5 1 (fun pre => pre.length) (fun pre => outV pre) (fun pre v => v = .slice none 0 0 ↔ pre = [])) _) ?_) (ownFrom_below (Nat.le_refl _) (by simp; omega)))
    rintro s A B row ⟨zv, hzv⟩ hg hrow
    exact ⟨zv, hzv.kept hg fun e => by obtain ⟨_, o, ho, hc⟩ := hrow _ e.symm; rw [show A.heap[_]? = _ from hzv] at ho; cases ho; cases hc⟩
  case h0 =>
    exact ⟨⟨⟨_, bO.alloc _, World.ownsRow_nil _ _ _ _, by simp⟩, _, bN⟩, hB0⟩
  case assign =>
    intro l x W K hK
    gi_wp2
    exact hK
  case body =>
    rintro l pre x W hnx ⟨⟨⟨v, hv, hrow, hnil⟩, zv, hzv⟩, hB⟩
    have hlen : pre.length + 1 ≤ 10 := by
      have h1 := hnx.length_le
      have h2 := grp_small hu
      simp at h1; omega
    have hlt := grp_next hnx
    clear hnx
    obtain ⟨g, last⟩ := x
    have hvc := hv.cell
    cases last
    · have ho := or128 g hlt
      gi_wp2_with (gi_at_builtin; refine wpListIn_append_own _ rfl _ _ 69 rfl w.heap.size 5 i0 (.int .u8 0) 1 1 Try.underlying69 hi hz0 hz1 hz2 rfl (by decide) _ _ _ rfl (hrow.alloc _) ⟨W.heap.size, 0, none⟩ 1 1 [.int .u8 ((g : Int) + 128)] rfl rfl (cell_one_new _ _ _) (by simp [Value.oneCell']) (by unfold maxLen; omega) (by omega) (by have := hB.size; simp; omega) ?_; intro v' w1 hown' hgrow _; obtain ⟨g', cap', rfl⟩ := ownsRow_succ hown'; obtain ⟨hv1, hv2, hr2, hk2, hb2⟩ := hv.appended (by decide) hrow hB.size (Nat.le_refl _) hown' hgrow; have hc1 := hv1.cell; have hf1 := hv1.frozen)
      have hzw : Boxed w1 (w.heap.size + 1) 96 zv := (hzv.alloc _).kept hgrow (hzv.not_row (by decide) hrow)
      refine ⟨hk2, ?_, ⟨⟨_, hv2, by rw [outV_snoc]; simpa [enc1] using hr2, by simp⟩, zv, hzw.other (by omega) _⟩, hB.trans hb2⟩
      exact (show _ = _ from hzw.other (by omega) _).trans (show _ = _ from hzv).symm
    · gi_wp2_with (gi_at_builtin; refine wpListIn_append_own _ rfl _ _ 69 rfl w.heap.size 5 i0 (.int .u8 0) 1 1 Try.underlying69 hi hz0 hz1 hz2 rfl (by decide) _ _ _ rfl (hrow.alloc _) ⟨W.heap.size, 0, none⟩ 1 1 [.int .u8 (g : Int)] rfl rfl (cell_one_new _ _ _) (by simp [Value.oneCell']) (by unfold maxLen; omega) (by omega) (by have := hB.size; simp; omega) ?_; intro v' w1 hown' hgrow _; obtain ⟨g', cap', rfl⟩ := ownsRow_succ hown'; obtain ⟨hv1, hv2, hr2, hk2, hb2⟩ := hv.appended (by decide) hrow hB.size (Nat.le_refl _) hown' hgrow; have hc1 := hv1.cell; have hf1 := hv1.frozen)
      have hzw : Boxed w1 (w.heap.size + 1) 96 zv := (hzv.alloc _).kept hgrow (hzv.not_row (by decide) hrow)
      refine ⟨hk2, ?_, ⟨⟨_, hv2, by rw [outV_snoc]; simpa [enc1] using hr2, by simp⟩, zv, hzw.other (by omega) _⟩, hB.trans hb2⟩
      exact (show _ = _ from hzw.other (by omega) _).trans (show _ = _ from hzv).symm
  case done =>
    rintro D ys W hD rfl ⟨⟨⟨v, hv, hrow, hnil⟩, zv, hzv⟩, hB⟩ hK
    have hc := hv.cell
    have hne : grp z ≠ [] := by rw [grp]; split <;> simp
    obtain ⟨m, hm⟩ : ∃ m, (grp z).length = m + 1 := ⟨(grp z).length - 1, by have := List.length_pos_iff.2 hne; omega⟩
    rw [hm] at hrow
    obtain ⟨g, cap, rfl⟩ := ownsRow_succ hrow
    have kc := run_convert_bytes_arg (P := Try.prog) W 69 5 Try.underlying69 Try.underlying5 g 0 (m + 1) cap ((grp z).map fun x => ((enc1 x : Nat) : Int)) (by simpa using hm) (fun i hi => by
      have hlt : i < (grp z).length := by omega
      rw [Nat.zero_add, hrow.cellAt i (by omega)]
      simp [outV, List.getD, List.getElem?_eq_getElem hlt]) 9 Try.underlying9
    clear hm
    gi_wp2
    refine ⟨by simp, .inl ⟨_, _, rfl, run_takeDeferred hK, ?_⟩⟩
    refine ⟨.tuple #[.string (strOfNums ((grp z).map fun x => ((enc1 x : Nat) : Int))), .int .i64 0], by simp [results, Try.f59, go_sem], _, rfl, ?_, hB.trans (belowK_b (w := w) (Nat.le_refl _) W D _ _ (by simp at hD; omega) hK rfl rfl)⟩
    rw [strOfNums_data, Hzz.out, List.map_map]
    rfl
  case stop =>
    rintro D c pre W _ _ h _
    exact h.elim

set_option maxHeartbeats 1000000 in
theorem bad (n : Int) (w : World) (h : n < -4611686018427387903 ∨ 4611686018427387903 < n) :
    Calls Try.prog 59 #[.int .i64 n] w fun e w' => e = .returned (.tuple #[.string ByteArray.empty, .int .i64 10]) ∧ Below w.heap.size w w' := by
  by_cases h1 : n < -4611686018427387903
  · have t1 : decide (n < -4611686018427387903) = true := decide_eq_true h1
    go_enter Try.func59, Try.ntmps59
    go_wp2
    go_ret2
    exact ⟨rfl, Below.refl _ _⟩
  · have t1 : decide (n < -4611686018427387903) = false := decide_eq_false h1
    have t2 : decide (4611686018427387903 < n) = true := decide_eq_true (by omega)
    clear h1 h
    go_enter Try.func59, Try.ntmps59
    go_wp2
    go_ret2
    exact ⟨rfl, Below.refl _ _⟩

/-- a string of bytes -/
def bs (l : List UInt8) : ByteArray := ⟨l.toArray⟩
theorem bs_data (l : List UInt8) : (bs l).data.toList = l := rfl
theorem bs_eq (s : ByteArray) : bs s.data.toList = s := by cases s; simp [bs]
theorem bs_size (l : List UInt8) : (bs l).size = l.length := by simp [bs, ByteArray.size]

theorem grp_leb : ∀ (m z : Nat), z ≤ m → (grp z).map (fun x => UInt8.ofNat (enc1 x)) = leb z
  | 0, z, h => by rw [grp_lt (by omega), leb_lt (by omega)]; simp [enc1]
  | m + 1, z, h => by
    by_cases hz : z < 128
    · rw [grp_lt hz, leb_lt hz]; simp [enc1]
    · rw [grp_ge hz, leb_ge hz, List.map_cons, grp_leb m (z / 128) (by omega)]; simp [enc1]

theorem any (n : Int) (w : World) :
    Calls Try.prog 59 #[.int .i64 n] w fun e w' => e = .returned (.tuple #[.string (bs (putL n).1), .int .i64 (putL n).2]) ∧ Below w.heap.size w w' := by
  by_cases h : InRange n
  · refine (good n w h.1 h.2).mono ?_
    rintro e w' ⟨s, rfl, hs, hb⟩
    rw [grp_leb _ _ (Nat.le_refl _)] at hs
    refine ⟨?_, hb⟩
    rw [putL, if_pos h, ← hs, bs_eq]
  · refine (bad n w (by unfold InRange at h; omega)).mono ?_
    rintro e w' ⟨rfl, hb⟩
    refine ⟨?_, hb⟩
    rw [putL, if_neg h]; rfl

end Go.Proofs.Yteilkigdlkeiaaa.PutInt

namespace Go.Proofs.Yteilkigdlkeiaaa.IntW
set_option linter.unusedVariables false
set_option linter.unusedSimpArgs false
open Go Go.RowKit Go.Proofs.Yteilkigdlkeiaaa.PutInt
open Go.Proofs.Yteilkigdlkeiaaa.Groups (U64)
open Go.Proofs.Yteilkigdlkeiaaa.Leb

/-- what Int returns, as a tuple -/
def res (x : Int × Int × Int) : Value := .tuple #[.int .i64 x.1, .int .i64 x.2.1, .int .i64 x.2.2]

theorem res_eq {x y : Int × Int × Int} (h : x = y) : Ending.returned (res x) = .returned (res y) := by rw [h]

theorem and127 (b : Nat) (h : b < 256) : IntKind.u64.wrap (bits BinOp.and IntKind.u8 (b : Int) 127) = ((b % 128 : Nat) : Int) := by
  have := u8_and_nat b 127 h (by decide)
  rw [show ((127 : Nat) : Int) = 127 from rfl] at this
  rw [this, show b &&& 127 = b % 128 from Nat.and_two_pow_sub_one_eq_mod b 7, IntKind.wrap_u64]
  omega

theorem pow128 (k : Nat) : (128 : Nat) ^ k = 2 ^ (7 * k) := by rw [Nat.pow_mul]
theorem pow_le (k : Nat) (h : k < 9) : 128 ^ k * 128 ≤ 9223372036854775808 := by
  have : 128 ^ (k + 1) ≤ 128 ^ 9 := Nat.pow_le_pow_right (by decide) (by omega)
  rw [Nat.pow_succ] at this
  rw [Leb.pow9] at this; exact this

/-- one more group -/
theorem or_facts (acc k m : Nat) (hk : k < 9) (ha : acc < 128 ^ k) (hm : m < 128) :
    ∃ v a2 : Nat, IntKind.u64.wrap ((m : Int) * 2 ^ (7 * k)) = (v : Int) ∧ bits BinOp.or IntKind.u64 (acc : Int) (v : Int) = (a2 : Int) ∧ a2 < 128 ^ (k + 1) ∧ a2 = acc + 128 ^ k * m := by
  have hp := pow_le k hk
  have hv : 128 ^ k * m ≤ 128 ^ k * 127 := Nat.mul_le_mul_left _ (by omega)
  have hlt : 128 ^ k * m < 9223372036854775808 := by omega
  refine ⟨128 ^ k * m, acc + 128 ^ k * m, ?_, ?_, ?_, rfl⟩
  · rw [IntKind.wrap_u64, pow128]
    have : (m : Int) * 2 ^ (7 * k) = ((2 ^ (7 * k) * m : Nat) : Int) := by rw [Int.natCast_mul, Int.natCast_pow]; exact Int.mul_comm _ _
    rw [this]
    rw [pow128] at hlt
    omega
  · rw [u64_or_nat _ _ (by omega) (by omega)]
    rw [pow128] at ha ⊢
    rw [Nat.or_comm, ← Nat.two_pow_add_eq_or_of_lt ha, Nat.add_comm]
  · rw [Nat.pow_succ]; omega

theorem unzig_bits (z : Nat) (h : z < 9223372036854775808) :
    bits BinOp.xor IntKind.i64 (wrap64 ((z : Int) / 2)) (wrap64 (-wrap64 (bits BinOp.and IntKind.u64 (z : Int) 1))) = unzig z := by
  have h1 : bits BinOp.and IntKind.u64 (z : Int) 1 = ((z % 2 : Nat) : Int) := by
    have := u64_and_nat z 1 (by omega) (by decide)
    rw [show ((1 : Nat) : Int) = 1 from rfl] at this
    rw [this, Nat.and_one_is_mod]
  have h2 : wrap64 ((z : Int) / 2) = ((z / 2 : Nat) : Int) := by unfold wrap64; omega
  rw [h1, h2]
  unfold unzig
  rcases Nat.mod_two_eq_zero_or_one z with hz | hz
  · rw [hz, if_neg (by decide)]
    have : wrap64 (-wrap64 ((0 : Nat) : Int)) = ((0 : Nat) : Int) := by unfold wrap64; omega
    rw [this]
    show IntKind.i64.wrap ((BitVec.ofInt 64 ((z / 2 : Nat) : Int) ^^^ BitVec.ofInt 64 ((0 : Nat) : Int)).toNat : Int) = _
    have h0 : BitVec.ofInt 64 ((0 : Nat) : Int) = 0#64 := by decide
    rw [h0, BitVec.xor_zero, ofInt_u64 _ (by omega), IntKind.wrap_i64]
    omega
  · rw [hz, if_pos rfl]
    have : wrap64 (-wrap64 ((1 : Nat) : Int)) = -1 := by unfold wrap64; omega
    rw [this]
    have hc : bits BinOp.xor IntKind.i64 ((z / 2 : Nat) : Int) (-1) = bits BinOp.xor IntKind.i64 (-1) ((z / 2 : Nat) : Int) := by
      show IntKind.i64.wrap ((BitVec.ofInt 64 _ ^^^ BitVec.ofInt 64 _).toNat : Int) = IntKind.i64.wrap ((BitVec.ofInt 64 _ ^^^ BitVec.ofInt 64 _).toNat : Int)
      rw [BitVec.xor_comm]
    rw [hc, i64_not _ (by omega)]
    omega

set_option maxRecDepth 100000 in
set_option maxHeartbeats 4000000 in
theorem inner (s : ByteArray) (p : Nat) (w : World) (hs : s.size ≤ 140737488351232) (hp : p ≤ s.size) :
    Calls Try.prog 55 #[.string s, .int .i64 p] w fun e w' => e = .returned (res (intL s.data.toList p)) ∧ w = w' := by
  have t1 : decide ((p : Int) < 0) = false := decide_eq_false (by omega)
  have t2 : decide (s.size < p) = false := decide_eq_false (by omega)
  have hp2 : p ≤ s.data.toList.length := by simpa using hp
  go_enter Try.func55, Try.ntmps55
  go_wp2
  go_loop [7, 19] (fun z i => ∃ k acc : Nat, k ≤ 9 ∧ i = .int .i64 k ∧ z = .int .u64 acc ∧ Hid (acc < 128 ^ k) ∧ Hid (rd 9 (s.data.toList.drop p) = cont k acc (rd (9 - k) (s.data.toList.drop (p + k))))) (fun _ i => 9 - (intOf i).toNat)
  case atStart => exact ⟨0, 0, by omega, rfl, rfl, by show 0 < _; decide, by show _ = _; rw [cont_zero]; rfl⟩
  case round =>
    obtain ⟨k, acc, hk, rfl, rfl, Hacc, Hr⟩ := hrel
    by_cases hlt : k < 9
    · obtain ⟨j, hj, hjn⟩ : ∃ j : Nat, (p : Int) + k = j ∧ j = p + k := ⟨p + k, by omega, rfl⟩
      have Hjn := Lib.hid hjn
      clear hjn
      by_cases hin : j < s.size
      · have hx : ∃ b : Nat, s[j].toNat = b ∧ b < 256 ∧ Hid (∃ h : p + k < s.data.toList.length, s.data.toList[p + k].toNat = b) :=
          ⟨s[j].toNat, rfl, s[j].toNat_lt, by
            have hjn := Hjn.out
            subst hjn
            exact ⟨by simpa using hin, rfl⟩⟩
        obtain ⟨b, hb, hbl, Hb⟩ := hx
        have e1 := and127 b hbl
        obtain ⟨m, hm, hml⟩ : ∃ m : Nat, b % 128 = m ∧ m < 128 := ⟨b % 128, rfl, by omega⟩
        rw [hm] at e1
        obtain ⟨v, a2, e2, e3, ha2, Ha2⟩ := or_facts acc k m hlt Hacc.out hml
        have HA2 := Lib.hid ha2
        have HAe := Lib.hid Ha2
        have Hm := Lib.hid hm
        have hlt63 : a2 < 9223372036854775808 := by
          have := pow_le k hlt
          rw [Nat.pow_succ] at ha2; omega
        have e4 := unzig_bits a2 hlt63
        generalize hn : unzig a2 = n at e4
        have Hn := Lib.hid hn
        clear ha2 Ha2 hn hm hlt63
        by_cases hge : 128 ≤ b
        · have t3 : decide (128 ≤ (b : Int)) = true := decide_eq_true (by omega)
          clear e4
          go_wp2
          go_round
          case rel =>
            refine ⟨k + 1, a2, by omega, by go_num, rfl, HA2.out, ?_⟩
            obtain ⟨h1, h2⟩ := Hb.out
            have := rd_more Hr.out hlt h1 (by omega)
            show _ = _
            rw [this, HAe.out, h2, ← Hm.out, show b - 128 = b % 128 by omega]
          case measure => simp [intOf]; omega
        · have t3 : decide (128 ≤ (b : Int)) = false := decide_eq_false (by omega)
          have hfin : rd 9 (s.data.toList.drop p) = if 0 < k ∧ b = 0 then none else some (a2, k + 1) := by
            obtain ⟨h1, h2⟩ := Hb.out
            have := rd_last Hr.out hlt h1 (by omega)
            rw [this, h2, HAe.out, ← Hm.out, show b % 128 = b by omega]
          have HI : ¬ (0 < k ∧ b = 0) → Hid (intL s.data.toList p = if n < -4611686018427387903 then (0, 0, 10) else (n, (p : Int) + (k + 1 : Nat), 0)) := fun hc => by
            rw [if_neg hc] at hfin
            have := intL_some hp2 hfin
            rw [Hn.out] at this
            exact this
          have HN : (0 < k ∧ b = 0) → Hid (intL s.data.toList p = (0, 0, 10)) := fun hc => by
            rw [if_pos hc] at hfin
            exact intL_none hp2 hfin
          have Hj : Hid ((p : Int) + (k + 1 : Nat) = j + 1) := by show _ = _; omega
          clear hfin
          by_cases hb0 : b = 0
          · have t4 : ((b : Int) == 0) = true := by rw [beq_iff_eq]; omega
            have t4n : (b == 0) = true := by rw [beq_iff_eq]; omega
            by_cases hk0 : 0 < k
            · have t5 : decide (0 < (k : Int)) = true := decide_eq_true (by omega)
              have t5n : decide (0 < k) = true := decide_eq_true hk0
              have HN2 := HN ⟨hk0, hb0⟩
              clear HN HI hb0 hk0
              go_wp2
              go_ret3
              exact ⟨res_eq HN2.out.symm, rfl⟩
            · have t5 : decide (0 < (k : Int)) = false := decide_eq_false (by omega)
              have t5n : decide (0 < k) = false := decide_eq_false hk0
              have HI2 := HI (fun h => hk0 h.1)
              clear HN HI hb0 hk0
              by_cases hlow : n < -4611686018427387903
              · have t6 : decide (n < -4611686018427387903) = true := decide_eq_true hlow
                have h2 := HI2.out
                rw [if_pos hlow] at h2
                have H2 := Lib.hid h2
                clear h2 HI2 hlow
                go_wp2
                go_ret3
                exact ⟨res_eq H2.out.symm, rfl⟩
              · have t6 : decide (n < -4611686018427387903) = false := decide_eq_false hlow
                have h2 := HI2.out
                rw [if_neg hlow, Hj.out] at h2
                have H2 := Lib.hid h2
                clear h2 HI2 hlow
                go_wp2
                go_ret3
                exact ⟨res_eq H2.out.symm, rfl⟩
          · have t4 : ((b : Int) == 0) = false := by rw [beq_eq_false_iff_ne]; omega
            have t4n : (b == 0) = false := by rw [beq_eq_false_iff_ne]; omega
            have HI2 := HI (fun h => hb0 h.2)
            clear HN HI hb0
            by_cases hlow : n < -4611686018427387903
            · have t6 : decide (n < -4611686018427387903) = true := decide_eq_true hlow
              have h2 := HI2.out
              rw [if_pos hlow] at h2
              have H2 := Lib.hid h2
              clear h2 HI2 hlow
              go_wp2
              go_ret3
              exact ⟨res_eq H2.out.symm, rfl⟩
            · have t6 : decide (n < -4611686018427387903) = false := decide_eq_false hlow
              have h2 := HI2.out
              rw [if_neg hlow, Hj.out] at h2
              have H2 := Lib.hid h2
              clear h2 HI2 hlow
              go_wp2
              go_ret3
              exact ⟨res_eq H2.out.symm, rfl⟩
      · have hge : s.size ≤ j := by omega
        have HE : Hid (intL s.data.toList p = (0, 0, 10)) := intL_end hp2 Hr.out (by have := Hjn.out; simp; omega)
        clear hin
        go_wp2
        go_ret3
        exact ⟨res_eq HE.out.symm, rfl⟩
    · obtain rfl : k = 9 := by omega
      have HE : Hid (intL s.data.toList p = (0, 0, 10)) := intL_nine hp2 Hr.out
      clear hlt hk
      go_wp2
      go_ret3
      exact ⟨res_eq HE.out.symm, rfl⟩

set_option maxHeartbeats 1000000 in
theorem any (s : ByteArray) (n : Int) (w : World) (hs : s.size ≤ 140737488351232) :
    Calls Try.prog 55 #[.string s, .int .i64 n] w fun e w' => e = .returned (res (intL s.data.toList n)) ∧ w = w' := by
  by_cases h : n < 0
  · have HE : Hid (intL s.data.toList n = (0, 0, 2)) := by show _ = _; unfold intL; rw [if_pos (.inl h)]
    have t1 : decide (n < 0) = true := decide_eq_true h
    clear h
    go_enter Try.func55, Try.ntmps55
    go_wp2
    go_ret3
    exact ⟨res_eq HE.out.symm, rfl⟩
  · obtain ⟨p, rfl⟩ : ∃ p : Nat, n = p := ⟨n.toNat, by omega⟩
    by_cases hp : p ≤ s.size
    · exact inner s p w hs hp
    · have HE : Hid (intL s.data.toList p = (0, 0, 2)) := by show _ = _; unfold intL; rw [if_pos (.inr (by simp; omega))]
      have t1 : decide ((p : Int) < 0) = false := decide_eq_false h
      have t2 : decide (s.size < p) = true := decide_eq_true (by omega)
      clear h hp
      go_enter Try.func55, Try.ntmps55
      go_wp2
      go_ret3
      exact ⟨res_eq HE.out.symm, rfl⟩

end Go.Proofs.Yteilkigdlkeiaaa.IntW
