/- Lives: plain laws on lines, times, epochs. Lives: plain laws on stays. -/
import Derived.Test.YteilkigdlkeiaaaG5
import Derived.Test.YteilkigdlkeiaaaG6
import Derived.Test.YteilkigdlkeiaaaG7
namespace Go.Proofs.Yteilkigdlkeiaaa.Lf
set_option linter.unusedVariables false
set_option linter.unusedSimpArgs false
open Go Go.RowKit

/-- what an event does, in numbers -/
def StepR (l : Ln) (e : Ev) (n : Ln) : Prop :=
  l.si ≤ e.a ∧ n.si = e.a ∧ 0 ≤ l.si ∧ e.a ≤ 10000000 ∧ 0 ≤ l.ep ∧ l.ep ≤ 1000 ∧ n.ep ≤ 1000 ∧
  ((e.k = 1 ∧ l.st = 0 ∧ n.st = 1 ∧ n.ep = l.ep + 1 ∧ n.ho = e.h ∧ 0 ≤ e.h ∧ e.h ≤ 63) ∨
   (e.k = 2 ∧ l.st = 1 ∧ n.st = 1 ∧ n.ep = l.ep + 1 ∧ n.ho = e.h ∧ 0 ≤ e.h ∧ e.h ≤ 63) ∨
   (e.k = 3 ∧ l.st = 1 ∧ n.st = 2 ∧ n.ep = l.ep ∧ n.ho = l.ho) ∨
   (e.k = 4 ∧ l.st = 2 ∧ n.st = 1 ∧ n.ep = l.ep ∧ n.ho = l.ho) ∨
   (e.k = 5 ∧ (l.st = 1 ∨ l.st = 2) ∧ n.st = 3 ∧ n.ep = l.ep ∧ n.ho = l.ho) ∨
   (e.k = 6 ∧ l.st = 3 ∧ n.st = 1 ∧ n.ep = l.ep ∧ n.ho = l.ho) ∨
   (e.k = 7 ∧ l.st = 3 ∧ n.st = 0 ∧ n.ep = l.ep ∧ n.ho = -1 ∧ l.si + 2592000 ≤ e.a))

theorem stepR {l : Ln} {e : Ev} {n : Ln} (h : step l e = some n) : StepR l e n := by
  obtain ⟨h1, h2, h3, rfl⟩ := step_some h
  obtain ⟨st, ho, ep, si⟩ := l
  obtain ⟨k, a, h'⟩ := e
  have f1 := valid_facts h1
  have f2 := formed_facts h2
  have hk : k = 1 ∨ k = 2 ∨ k = 3 ∨ k = 4 ∨ k = 5 ∨ k = 6 ∨ k = 7 := by omega
  have hh := f2.2.2.2.2.2.2
  unfold StepR
  rcases hk with rfl | rfl | rfl | rfl | rfl | rfl | rfl
  all_goals (
    simp only [mayB, Bool.and_eq_true, decide_eq_true_eq, beq_iff_eq, Bool.or_eq_true, if_true, reduceIte, Int.reduceEq, if_false, bne_iff_ne] at h3
    simp only [namedB, Int.reduceBEq, Bool.or_true, Bool.true_or, Bool.or_false, Bool.false_or, Bool.or_self, forall_const, false_implies, implies_true] at hh
    simp only [nextL, namedB, Int.reduceBEq, Bool.or_true, Bool.true_or, Bool.or_false, Bool.or_self, if_true, reduceIte, Int.reduceEq, if_false, Bool.false_eq_true]
    simp only [Int.reduceEq, false_and, false_or, or_false, true_and, and_true]
    omega)

/-- a line that is held by nobody, or by a holder -/
def goodL (l : Ln) : Prop := validB l = true
theorem good_first : validB firstL = true := by decide
theorem good_next {l : Ln} {e : Ev} {n : Ln} (h : step l e = some n) : validB n = true := by
  have h0 := (step_some h).1
  have r := stepR h
  have f1 := valid_facts (st := l.st) (ho := l.ho) (ep := l.ep) (si := l.si) h0
  have hv := h0
  simp only [validB, inB, Bool.and_eq_true, decide_eq_true_eq] at hv ⊢
  obtain ⟨r1, r2, r3, r4, r5, r6, r7, r⟩ := r
  have v4 : l.st ≠ 0 → (0 ≤ l.ho ∧ l.ho ≤ 63) ∧ 1 ≤ l.ep := by
    intro h0
    have := hv.2
    rw [if_neg h0] at this
    simpa using this
  refine ⟨⟨⟨by omega, by omega⟩, by omega⟩, ?_⟩
  by_cases hz : n.st = 0
  · rw [if_pos hz, beq_iff_eq]; omega
  · rw [if_neg hz, Bool.and_eq_true, Bool.and_eq_true, decide_eq_true_eq, decide_eq_true_eq, decide_eq_true_eq]
    omega
theorem good_line : ∀ (es : List Ev) (l : Ln), validB l = true → validB (lineFrom l es) = true
  | [], l, h => h
  | e :: es, l, h => by
    simp only [lineFrom]
    split
    · exact h
    · rename_i n hs
      exact good_line es n (good_next hs)
theorem good_facts {l : Ln} (h : validB l = true) : (l.st = 0 ∨ l.st = 1 ∨ l.st = 2 ∨ l.st = 3) ∧ 0 ≤ l.ep ∧ l.ep ≤ 1000 ∧ 0 ≤ l.si ∧ l.si ≤ 10000000 ∧ (l.st = 0 → l.ho = -1) ∧ (l.st ≠ 0 → 0 ≤ l.ho ∧ l.ho ≤ 63 ∧ 1 ≤ l.ep) := by
  have f1 := valid_facts (st := l.st) (ho := l.ho) (ep := l.ep) (si := l.si) h
  simp only [validB, inB, Bool.and_eq_true, decide_eq_true_eq] at h
  refine ⟨f1.1, f1.2.1, f1.2.2.1, f1.2.2.2.1, f1.2.2.2.2.1, f1.2.2.2.2.2.2.2, fun h0 => ?_⟩
  have := h.2
  rw [if_neg h0] at this
  simp only [Bool.and_eq_true, decide_eq_true_eq] at this
  omega

theorem ok_app : ∀ (es fs : List Ev) (l : Ln), okFrom l (es ++ fs) = (okFrom l es && okFrom (lineFrom l es) fs)
  | [], fs, l => by simp [okFrom, lineFrom]
  | e :: es, fs, l => by
    simp only [List.cons_append, okFrom, lineFrom]
    rcases step l e with _ | n
    · simp
    · simp only [ok_app es fs n]
theorem line_app : ∀ (es fs : List Ev) (l : Ln), okFrom l es = true → lineFrom l (es ++ fs) = lineFrom (lineFrom l es) fs
  | [], fs, l, h => by simp [lineFrom]
  | e :: es, fs, l, h => by
    simp only [List.cons_append, okFrom, lineFrom] at h ⊢
    rcases hs : step l e with _ | n
    · rw [hs] at h; cases h
    · rw [hs] at h
      exact line_app es fs n h
theorem ok_tk {L : List Ev} {l : Ln} (h : okFrom l L = true) (k : Nat) : okFrom l (L.take k) = true := by
  have := ok_app (L.take k) (L.drop k) l
  rw [List.take_append_drop, h] at this
  simp only [Bool.true_eq, Bool.and_eq_true] at this
  exact this.1
theorem life_tk {L : List Ev} (h : lifeB L = true) (k : Nat) : lifeB (L.take k) = true := by
  simp only [lifeB, Bool.and_eq_true, decide_eq_true_eq] at h ⊢
  exact ⟨by rw [List.length_take]; omega, ok_tk h.2 k⟩
theorem ok_dr {L : List Ev} {l : Ln} (h : okFrom l L = true) (k : Nat) : okFrom (lineFrom l (L.take k)) (L.drop k) = true := by
  have := ok_app (L.take k) (L.drop k) l
  rw [List.take_append_drop, h] at this
  simp only [Bool.true_eq, Bool.and_eq_true] at this
  exact this.2
theorem line_tk2 {L : List Ev} {l : Ln} (h : okFrom l L = true) {k m : Nat} (hk : k ≤ m) : lineFrom l (L.take m) = lineFrom (lineFrom l (L.take k)) ((L.drop k).take (m - k)) := by
  rw [← line_app _ _ _ (ok_tk h k)]
  congr 1
  have : m = k + (m - k) := by omega
  rw [this, List.take_add, Nat.add_sub_cancel_left]

theorem kAt_mono (L : List Ev) {s t : Int} (h : s ≤ t) : kAt L s ≤ kAt L t := by
  induction L with
  | nil => simp [kAt]
  | cons e es ih =>
    rw [kAt_cons, kAt_cons]
    by_cases h1 : e.a ≤ s
    · rw [if_pos h1, if_pos (by omega)]; omega
    · rw [if_neg h1]; omega

/-- the line at a time -/
def lineAt (L : List Ev) (t : Int) : Ln := lineFrom firstL (L.take (kAt L t))
theorem at_is {L : List Ev} (h : lifeB L = true) {t : Int} (h0 : 0 ≤ t) (h1 : t ≤ 10000000) : atV L t = some (lineAt L t) := by
  have hb : inB t 0 10000000 = true := by simp [inB, h0, h1]
  rw [atV, h, hb]
  simp only [Bool.and_self, if_true]
  rw [runV_life (life_tk h _)]
  rfl
theorem keep_is {L : List Ev} (h : lifeB L = true) {t : Int} (h0 : 0 ≤ t) (h1 : t ≤ 10000000) : keepV L t = if usedB (lineAt L t) = true then some ⟨(lineAt L t).ep, t⟩ else none := by
  rw [keepV, at_is h h0 h1]
theorem good_at {L : List Ev} (t : Int) : validB (lineAt L t) = true := good_line _ _ good_first
theorem used_st {l : Ln} : usedB l = true ↔ (l.st = 1 ∨ l.st = 2) := by simp [usedB]
theorem used_st' {l : Ln} : usedB l = false ↔ ¬ (l.st = 1 ∨ l.st = 2) := by rw [← used_st]; simp

/-- later lines: epochs don't descend; in one epoch there is one holder, and what is free stays free -/
theorem later : ∀ (es : List Ev) (l : Ln), okFrom l es = true → l.ep ≤ (lineFrom l es).ep ∧ ((lineFrom l es).ep = l.ep → (l.st = 0 → (lineFrom l es).st = 0) ∧ ((lineFrom l es).st ≠ 0 → (lineFrom l es).ho = l.ho))
  | [], l, h => by simp [lineFrom]
  | e :: es, l, h => by
    simp only [okFrom, lineFrom] at h ⊢
    rcases hs : step l e with _ | n
    · rw [hs] at h; cases h
    · rw [hs] at h
      simp only at h ⊢
      have ih := later es n h
      obtain ⟨r1, r2, r3, r4, r5, r6, r7, r⟩ := stepR hs
      refine ⟨by omega, fun he => ?_⟩
      have hi := ih.2 (by omega)
      refine ⟨fun h0 => ?_, fun h0 => ?_⟩
      · exact hi.1 (by omega)
      · have := hi.2 h0
        have hn0 : n.st ≠ 0 := fun hz => h0 (hi.1 hz)
        omega
theorem later_at {L : List Ev} (h : okFrom firstL L = true) {s t : Int} (hst : s ≤ t) : (lineAt L s).ep ≤ (lineAt L t).ep ∧ ((lineAt L t).ep = (lineAt L s).ep → ((lineAt L s).st = 0 → (lineAt L t).st = 0) ∧ ((lineAt L t).st ≠ 0 → (lineAt L t).ho = (lineAt L s).ho)) := by
  have hk := kAt_mono L hst
  have e : lineAt L t = lineFrom (lineAt L s) ((L.drop (kAt L s)).take (kAt L t - kAt L s)) := line_tk2 h hk
  rw [e]
  exact later _ _ (ok_tk (ok_dr h _) _)

/-- what becomes of mail that is kept at a time -/
theorem fate_is {L : List Ev} (h : lifeB L = true) {s t : Int} (h0 : 0 ≤ s) (h1 : s ≤ 10000000) (h2 : s ≤ t) (h3 : t ≤ 10000000) (hu : usedB (lineAt L s) = true) :
    fateV L ⟨(lineAt L s).ep, s⟩ t = if (lineAt L t).st = 0 ∨ (lineAt L t).ep ≠ (lineAt L s).ep then (3, -1, 0) else if (lineAt L t).st = 1 then (1, (lineAt L t).ho, 0) else (2, -1, 0) := by
  rw [fateV, at_is h (by omega) h3]
  simp only [keep_is h h0 h1, hu, if_true]
  rw [if_pos (by simpa using h2)]

theorem ok_ts : ∀ (es : List Ev) (l : Ln), okFrom l es = true → ∀ x ∈ es, 0 ≤ x.a ∧ x.a ≤ 10000000
  | [], l, h, x, hx => by simp at hx
  | e :: es, l, h, x, hx => by
    simp only [okFrom] at h
    split at h
    · cases h
    · rename_i n hs
      rcases List.mem_cons.1 hx with rfl | hx
      · obtain ⟨r1, r2, r3, r4, _⟩ := stepR hs
        omega
      · exact ok_ts es n h x hx
theorem life_of {L : List Ev} (h : okFrom firstL L = true) (hl : L.length ≤ 40) : lifeB L = true := by simp [lifeB, h, hl]
theorem life_ok {L : List Ev} (h : lifeB L = true) : okFrom firstL L = true := by simp only [lifeB, Bool.and_eq_true] at h; exact h.2
end Go.Proofs.Yteilkigdlkeiaaa.Lf

namespace Go.Proofs.Yteilkigdlkeiaaa.Lf
set_option linter.unusedVariables false
set_option linter.unusedSimpArgs false
open Go Go.RowKit

/-- the stays, event by event -/
def stG : List Sy → Ln → List Ev → List Sy
  | out, l, [] => addStay out l 10000001
  | out, l, e :: es => match step l e with
    | none => addStay out l 10000001
    | some n => stG (addStay out l e.a) n es

theorem fold_G : ∀ (es pre : List Ev) (out : List Sy) (l : Ln), okFrom l es = true →
    ((((pre.length : Nat) : Int) - 1, l) :: after pre.length l es).foldl (fun o x => addStay o x.2 (endOf (pre ++ es) x.1)) out = stG out l es
  | [], pre, out, l, h => by
    simp only [after, List.foldl_cons, List.foldl_nil, stG]
    rw [show endOf (pre ++ []) ((pre.length : Int) - 1) = 10000001 by unfold endOf; rw [if_neg (by simp)]]
  | e :: es, pre, out, l, h => by
    simp only [okFrom] at h
    rcases hs : step l e with _ | n
    · rw [hs] at h; cases h
    · rw [hs] at h
      have ih := fold_G es (pre ++ [e]) (addStay out l e.a) n h
      simp only [after, hs, stG]
      rw [List.foldl_cons]
      have e1 : endOf (pre ++ e :: es) ((pre.length : Int) - 1) = e.a := by
        unfold endOf
        rw [if_pos (by simp; omega), show ((pre.length : Int) - 1 + 1).toNat = pre.length by omega]
        simp
      dsimp only at ih ⊢
      rw [e1]
      rw [← ih]
      rw [show (pre ++ [e]).length = pre.length + 1 by simp, show ((pre.length + 1 : Nat) : Int) - 1 = (pre.length : Int) by omega, List.append_assoc]
      rfl
theorem staysOf_G {L : List Ev} (h : okFrom firstL L = true) : staysOf L (items L) = stG [] firstL L := fold_G L [] [] firstL h

theorem addStay_cases (out : List Sy) (l : Ln) (e : Int) :
    (addStay out l e = out ∧ ¬ (usedB l = true ∧ l.si ≠ e)) ∨
    (usedB l = true ∧ l.si ≠ e ∧ ∃ o x, out = o ++ [x] ∧ x.ep = l.ep ∧ x.tt = l.si ∧ addStay out l e = o ++ [⟨x.ho, x.ep, x.fr, e⟩]) ∨
    (usedB l = true ∧ l.si ≠ e ∧ (∀ o x, out = o ++ [x] → ¬ (x.ep = l.ep ∧ x.tt = l.si)) ∧ addStay out l e = out ++ [⟨l.ho, l.ep, l.si, e⟩]) := by
  by_cases hc : usedB l = true ∧ l.si ≠ e
  · rcases List.eq_nil_or_concat out with rfl | ⟨o, x, rfl⟩
    · refine .inr (.inr ⟨hc.1, hc.2, fun o x h => by simp at h, ?_⟩)
      unfold addStay
      rw [if_pos hc]
      rfl
    · by_cases hx : x.ep = l.ep ∧ x.tt = l.si
      · refine .inr (.inl ⟨hc.1, hc.2, o, x, by simp, hx.1, hx.2, ?_⟩)
        unfold addStay
        rw [if_pos hc]
        simp [List.getLast?_concat, hx]
      · refine .inr (.inr ⟨hc.1, hc.2, fun o' x' h => ?_, ?_⟩)
        rw [List.concat_eq_append] at h
        · have := List.append_inj' h rfl
          simp only [List.cons.injEq, and_true] at this
          rw [← this.2]; exact hx
        · unfold addStay
          rw [if_pos hc]
          simp [List.getLast?_concat, hx]
  · refine .inl ⟨?_, hc⟩
    unfold addStay
    rw [if_neg hc]

/-- a pass lies between, or a quarantine -/
def Apart2 (pre : List Ev) (s t : Int) : Prop := s + 2592000 ≤ t ∨ ∃ p, p ∈ pre ∧ p.k = 2 ∧ s ≤ p.a ∧ p.a ≤ t
theorem Apart2.mono {pre pre' : List Ev} {s t t' : Int} (h : Apart2 pre s t) (hp : ∀ p, p ∈ pre → p ∈ pre') (ht : t ≤ t') : Apart2 pre' s t' := by
  rcases h with h | ⟨p, h1, h2, h3, h4⟩
  · exact .inl (by omega)
  · exact .inr ⟨p, hp p h1, h2, h3, by omega⟩

/-- what holds of two stays, the second one later -/
def PR2 (a b : Sy) : Prop := a.ep ≤ b.ep ∧ (a.ep = b.ep → a.ho = b.ho) ∧ a.tt ≤ b.fr
/-- what holds of two stays that follow each other -/
def NX2 (pre : List Ev) (a b : Sy) : Prop := (a.tt = b.fr → a.ep ≠ b.ep) ∧ (a.ep ≠ b.ep → Apart2 pre a.tt b.fr)
def Adj (R : Sy → Sy → Prop) (l : List Sy) : Prop := ∀ i (h : i + 1 < l.length), R l[i] l[i + 1]
theorem Adj.snoc {R : Sy → Sy → Prop} {l : List Sy} {s : Sy} (h : Adj R l) (hs : ∀ o x, l = o ++ [x] → R x s) : Adj R (l ++ [s]) := by
  intro i hi
  simp only [List.length_append, List.length_singleton] at hi
  by_cases h1 : i + 1 < l.length
  · rw [List.getElem_append_left (by omega), List.getElem_append_left h1]
    exact h i h1
  · have hl : i + 1 = l.length := by omega
    rw [List.getElem_append_left (by omega), List.getElem_append_right (by omega)]
    simp only [hl, Nat.sub_self, List.getElem_cons_zero]
    refine hs (l.take i) l[i] ?_
    have := List.take_append_getElem (l := l) (i := i) (by omega)
    rw [this, List.take_of_length_le (by omega)]
theorem Adj.init {R : Sy → Sy → Prop} {l : List Sy} {s : Sy} (h : Adj R (l ++ [s])) : Adj R l := by
  intro i hi
  have := h i (by simp; omega)
  rw [List.getElem_append_left (by omega), List.getElem_append_left hi] at this
  exact this
theorem Adj.last {R : Sy → Sy → Prop} {l : List Sy} {s x : Sy} (h : Adj R (l ++ [x] ++ [s])) : R x s := by
  have := h l.length (by simp)
  simpa using this
theorem Adj.imp {R R' : Sy → Sy → Prop} {l : List Sy} (h : Adj R l) (hi : ∀ a b, R a b → R' a b) : Adj R' l := fun i hl => hi _ _ (h i hl)

/-- what holds all along -/
structure SInv (pre : List Ev) (out : List Sy) (l : Ln) : Prop where
  each : ∀ s ∈ out, s.ep ≤ l.ep ∧ (s.ep = l.ep → l.st ≠ 0 → s.ho = l.ho) ∧ 0 ≤ s.fr ∧ s.fr < s.tt ∧ s.tt ≤ l.si
  pair : out.Pairwise PR2
  adj : Adj (NX2 pre) out
  last : ∀ o x, out = o ++ [x] → (l.ep ≠ x.ep ∨ l.st = 0) → Apart2 pre x.tt l.si
  good : validB l = true

theorem SInv.first : SInv [] [] firstL := ⟨fun s h => by simp at h, List.Pairwise.nil, fun i h => by simp at h, fun o x h => by simp at h, good_first⟩

theorem pair_snoc {out : List Sy} {s : Sy} (h : out.Pairwise PR2) (hs : ∀ a ∈ out, PR2 a s) : (out ++ [s]).Pairwise PR2 := by
  rw [List.pairwise_append]
  exact ⟨h, by simp, fun a ha b hb => by rw [List.mem_singleton] at hb; subst hb; exact hs a ha⟩

/-- one more line is taken: what holds of the stays, up to the time e -/
theorem SInv.add {pre : List Ev} {out : List Sy} {l : Ln} (h : SInv pre out l) {e : Int} (he : l.si ≤ e) :
    (∀ s ∈ addStay out l e, s.ep ≤ l.ep ∧ (s.ep = l.ep → l.st ≠ 0 → s.ho = l.ho) ∧ 0 ≤ s.fr ∧ s.fr < s.tt ∧ s.tt ≤ e) ∧ (addStay out l e).Pairwise PR2 ∧ Adj (NX2 pre) (addStay out l e) ∧
    (∀ o x, addStay out l e = o ++ [x] → (usedB l = true ∧ x.ep = l.ep ∧ x.tt = e) ∨ (addStay out l e = out ∧ ¬ (usedB l = true ∧ l.si ≠ e))) := by
  have g := good_facts h.good
  rcases addStay_cases out l e with ⟨h1, h2⟩ | ⟨h1, h2, o, x, rfl, h3, h4, h5⟩ | ⟨h1, h2, h3, h5⟩
  · rw [h1]
    refine ⟨fun s hs => ?_, h.pair, h.adj, fun o x _ => .inr ⟨rfl, h2⟩⟩
    have := h.each s hs
    exact ⟨this.1, this.2.1, this.2.2.1, this.2.2.2.1, by omega⟩
  · rw [h5]
    have hx := h.each x (by simp)
    refine ⟨fun s hs => ?_, ?_, ?_, fun o' x' ho => .inl ?_⟩
    · rcases List.mem_append.1 hs with hs | hs
      · have := h.each s (by simp [hs])
        exact ⟨this.1, this.2.1, this.2.2.1, this.2.2.2.1, by omega⟩
      · rw [List.mem_singleton] at hs; subst hs
        exact ⟨hx.1, hx.2.1, hx.2.2.1, by dsimp only; omega, by dsimp only; omega⟩
    · have hp := List.pairwise_append.1 h.pair
      refine pair_snoc hp.1 fun a ha => ?_
      have := hp.2.2 a ha x (by simp)
      exact ⟨this.1, this.2.1, this.2.2⟩
    · refine (Adj.init h.adj).snoc fun o' x' ho => ?_
      subst ho
      have := h.adj.last
      exact ⟨this.1, this.2⟩
    · have := List.append_inj' ho rfl
      simp only [List.cons.injEq, and_true] at this
      rw [← this.2]
      exact ⟨h1, h3, rfl⟩
  · rw [h5]
    have hst := used_st.1 h1
    refine ⟨fun s hs => ?_, ?_, ?_, fun o' x' ho => .inl ?_⟩
    · rcases List.mem_append.1 hs with hs | hs
      · have := h.each s hs
        exact ⟨this.1, this.2.1, this.2.2.1, this.2.2.2.1, by omega⟩
      · rw [List.mem_singleton] at hs; subst hs
        exact ⟨Int.le_refl _, fun _ _ => rfl, g.2.2.2.1, by dsimp only; omega, by dsimp only; omega⟩
    · refine pair_snoc h.pair fun a ha => ?_
      have := h.each a ha
      exact ⟨this.1, fun he => this.2.1 he (by omega), this.2.2.2.2⟩
    · refine h.adj.snoc fun o' x' ho => ?_
      have hm : x' ∈ out := by rw [ho]; simp
      have hx := h3 o' x' ho
      refine ⟨fun ht he => hx ⟨he, ht⟩, fun he => ?_⟩
      exact h.last o' x' ho (.inl fun hh => he hh.symm)
    · have := List.append_inj' ho rfl
      simp only [List.cons.injEq, and_true] at this
      rw [← this.2]
      exact ⟨h1, rfl, rfl⟩

theorem SInv.step {pre : List Ev} {out : List Sy} {l : Ln} (h : SInv pre out l) {e : Ev} {n : Ln} (hs : Lf.step l e = some n) : SInv (pre ++ [e]) (addStay out l e.a) n := by
  obtain ⟨r1, r2, r3, r4, r5, r6, r7, r⟩ := stepR hs
  obtain ⟨a1, a2, a3, a4⟩ := h.add r1
  refine ⟨fun s hs' => ?_, a2, a3.imp fun a b hab => ⟨hab.1, fun he => (hab.2 he).mono (fun p hp => by simp [hp]) (Int.le_refl _)⟩, fun o x ho hx => ?_, good_next hs⟩
  · have := a1 s hs'
    refine ⟨by omega, fun he hn => ?_, this.2.2.1, this.2.2.2.1, by omega⟩
    have := this.2.1 (by omega) (by omega)
    omega
  · rcases a4 o x ho with ⟨hu, h1, h2⟩ | ⟨h1, h2⟩
    · have hst := used_st.1 hu
      have hp : e.k = 2 := by omega
      exact .inr ⟨e, by simp, hp, by omega, by omega⟩
    · rw [h1] at ho
      have hx1 := (h.each x (by rw [ho]; simp)).2.2.2.2
      have hl := h.last o x ho
      by_cases hc : l.ep ≠ x.ep ∨ l.st = 0
      · exact (hl hc).mono (fun p hp => by simp [hp]) (by omega)
      · have hc1 : l.ep = x.ep := by omega
        have hc2 : ¬ l.st = 0 := by omega
        have h2' : (l.st = 1 ∨ l.st = 2) → l.si = e.a := fun hh => by
          by_cases hq : l.si = e.a
          · exact hq
          · exact absurd ⟨used_st.2 hh, hq⟩ h2
        rcases r with r | r | r | r | r | r | r
        · omega
        · exact .inr ⟨e, by simp, r.1, by omega, by omega⟩
        all_goals first
          | omega
          | exact .inl (by omega)

/-- what holds of the stays in the end -/
def SFin (pre : List Ev) (S : List Sy) : Prop := (∀ s ∈ S, 0 ≤ s.fr ∧ s.fr < s.tt ∧ s.tt ≤ 10000001) ∧ S.Pairwise PR2 ∧ Adj (NX2 pre) S
theorem SInv.fin : ∀ (es pre : List Ev) (out : List Sy) (l : Ln), SInv pre out l → okFrom l es = true → SFin (pre ++ es) (stG out l es)
  | [], pre, out, l, h, hk => by
    have g := good_facts h.good
    obtain ⟨a1, a2, a3, _⟩ := h.add (e := 10000001) (by omega)
    rw [List.append_nil]
    exact ⟨fun s hs => ⟨(a1 s hs).2.2.1, (a1 s hs).2.2.2.1, (a1 s hs).2.2.2.2⟩, a2, a3⟩
  | e :: es, pre, out, l, h, hk => by
    simp only [okFrom] at hk
    rcases hs : Lf.step l e with _ | n
    · rw [hs] at hk; cases hk
    · rw [hs] at hk
      have := SInv.fin es (pre ++ [e]) _ n (h.step hs) hk
      simp only [stG, hs]
      rw [List.append_assoc] at this
      exact this
theorem stays_fin {L : List Ev} (h : okFrom firstL L = true) : SFin L (staysOf L (items L)) := by
  rw [staysOf_G h]
  have := SInv.fin L [] [] firstL SInv.first h
  simpa using this

/-- a second is in a stay of such an epoch and holder -/
def memX (S : List Sy) (t ep ho : Int) : Prop := ∃ s, s ∈ S ∧ s.fr ≤ t ∧ t < s.tt ∧ s.ep = ep ∧ s.ho = ho
theorem memX_app {S T : List Sy} {t ep ho : Int} : memX (S ++ T) t ep ho ↔ memX S t ep ho ∨ memX T t ep ho := by
  constructor
  · rintro ⟨s, h, r⟩
    rcases List.mem_append.1 h with h | h
    · exact .inl ⟨s, h, r⟩
    · exact .inr ⟨s, h, r⟩
  · rintro (⟨s, h, r⟩ | ⟨s, h, r⟩)
    · exact ⟨s, List.mem_append.2 (.inl h), r⟩
    · exact ⟨s, List.mem_append.2 (.inr h), r⟩
theorem memX_one {s : Sy} {t ep ho : Int} : memX [s] t ep ho ↔ (s.fr ≤ t ∧ t < s.tt ∧ s.ep = ep ∧ s.ho = ho) := by
  constructor
  · rintro ⟨s', h, r⟩; rw [List.mem_singleton] at h; subst h; exact r
  · exact fun r => ⟨s, by simp, r⟩

theorem add_old {pre : List Ev} {out : List Sy} {l : Ln} (h : SInv pre out l) {e : Int} (he : l.si ≤ e) {t : Int} (ht : t < l.si) (ep ho : Int) : memX (addStay out l e) t ep ho ↔ memX out t ep ho := by
  rcases addStay_cases out l e with ⟨h1, h2⟩ | ⟨h1, h2, o, x, rfl, h3, h4, h5⟩ | ⟨h1, h2, h3, h5⟩
  · rw [h1]
  · rw [h5, memX_app, memX_app, memX_one, memX_one]
    constructor
    · rintro (h | ⟨a, b, c, d⟩)
      · exact .inl h
      · exact .inr ⟨a, by omega, c, d⟩
    · rintro (h | ⟨a, b, c, d⟩)
      · exact .inl h
      · exact .inr ⟨a, by dsimp only; omega, c, d⟩
  · rw [h5, memX_app, memX_one]
    constructor
    · rintro (h | ⟨a, b, c, d⟩)
      · exact h
      · dsimp only at a; omega
    · exact .inl
theorem not_mem {pre : List Ev} {out : List Sy} {l : Ln} (h : SInv pre out l) {t : Int} (ht : l.si ≤ t) (ep ho : Int) : ¬ memX out t ep ho := by
  rintro ⟨s, hs, h1, h2, _⟩
  have := (h.each s hs).2.2.2.2
  omega
theorem add_new {pre : List Ev} {out : List Sy} {l : Ln} (h : SInv pre out l) {e : Int} {t : Int} (ht : l.si ≤ t) (hte : t < e) (ep ho : Int) : memX (addStay out l e) t ep ho ↔ (usedB l = true ∧ l.ep = ep ∧ l.ho = ho) := by
  have hn := not_mem h ht ep ho
  rcases addStay_cases out l e with ⟨h1, h2⟩ | ⟨h1, h2, o, x, rfl, h3, h4, h5⟩ | ⟨h1, h2, h3, h5⟩
  · rw [h1]
    refine ⟨fun hm => absurd hm hn, fun hh => absurd ⟨hh.1, by omega⟩ h2⟩
  · have hx := h.each x (by simp)
    have hst := used_st.1 h1
    rw [h5, memX_app, memX_one]
    rw [memX_app] at hn
    constructor
    · rintro (hm | ⟨a, b, c, d⟩)
      · exact absurd (.inl hm) hn
      · dsimp only at c d
        have := hx.2.1 h3 (by omega)
        exact ⟨h1, by omega, by omega⟩
    · rintro ⟨_, b, c⟩
      have := hx.2.1 h3 (by omega)
      exact .inr ⟨by dsimp only; omega, by dsimp only; omega, by dsimp only; omega, by dsimp only; omega⟩
  · rw [h5, memX_app, memX_one]
    constructor
    · rintro (hm | ⟨a, b, c, d⟩)
      · exact absurd hm hn
      · exact ⟨h1, c, d⟩
    · rintro ⟨_, b, c⟩
      exact .inr ⟨ht, hte, b, c⟩

theorem G_old : ∀ (es pre : List Ev) (out : List Sy) (l : Ln), SInv pre out l → okFrom l es = true → ∀ t ep ho, t < l.si → (memX (stG out l es) t ep ho ↔ memX out t ep ho)
  | [], pre, out, l, h, hk, t, ep, ho, ht => by
    have g := good_facts h.good
    exact add_old h (by omega) ht ep ho
  | e :: es, pre, out, l, h, hk, t, ep, ho, ht => by
    simp only [okFrom] at hk
    rcases hs : Lf.step l e with _ | n
    · rw [hs] at hk; cases hk
    · rw [hs] at hk
      simp only [stG, hs]
      have r := stepR hs
      have r1 := r.1
      have r2 := r.2.1
      rw [G_old es (pre ++ [e]) _ n (h.step hs) hk t ep ho (by omega)]
      exact add_old h r1 ht ep ho
theorem G_at : ∀ (es pre : List Ev) (out : List Sy) (l : Ln), SInv pre out l → okFrom l es = true → ∀ t ep ho, l.si ≤ t → t ≤ 10000000 →
    (memX (stG out l es) t ep ho ↔ (usedB (lineFrom l (es.take (kAt es t))) = true ∧ (lineFrom l (es.take (kAt es t))).ep = ep ∧ (lineFrom l (es.take (kAt es t))).ho = ho))
  | [], pre, out, l, h, hk, t, ep, ho, ht, ht2 => by
    simp only [List.take_nil, lineFrom, stG]
    exact add_new h ht (by omega) ep ho
  | e :: es, pre, out, l, h, hk, t, ep, ho, ht, ht2 => by
    simp only [okFrom] at hk
    rcases hs : Lf.step l e with _ | n
    · rw [hs] at hk; cases hk
    · rw [hs] at hk
      simp only at hk
      have r2 := (stepR hs).2.1
      simp only [stG, hs, kAt_cons]
      by_cases hte : e.a ≤ t
      · rw [if_pos hte, List.take_succ_cons]
        simp only [lineFrom, hs]
        exact G_at es (pre ++ [e]) _ n (h.step hs) hk t ep ho (by omega) ht2
      · rw [if_neg hte, List.take_zero]
        simp only [lineFrom]
        rw [G_old es (pre ++ [e]) _ n (h.step hs) hk t ep ho (by omega)]
        exact add_new h ht (by omega) ep ho
theorem stays_at {L : List Ev} (h : okFrom firstL L = true) {t : Int} (h0 : 0 ≤ t) (h1 : t ≤ 10000000) (ep ho : Int) :
    memX (staysOf L (items L)) t ep ho ↔ (usedB (lineAt L t) = true ∧ (lineAt L t).ep = ep ∧ (lineAt L t).ho = ho) := by
  rw [staysOf_G h]
  exact G_at L [] [] firstL SInv.first h t ep ho h0 h1

/-- how many events give a number to somebody -/
def gives : List Ev → Int
  | [] => 0
  | e :: es => (if e.k = 1 ∨ e.k = 2 then 1 else 0) + gives es
theorem ep_gives : ∀ (es : List Ev) (l : Ln), okFrom l es = true → (lineFrom l es).ep = l.ep + gives es
  | [], l, h => by simp [lineFrom, gives]
  | e :: es, l, h => by
    simp only [okFrom] at h
    rcases hs : Lf.step l e with _ | n
    · rw [hs] at h; cases h
    · rw [hs] at h
      have ih := ep_gives es n h
      simp only [lineFrom, hs, gives]
      obtain ⟨r1, r2, r3, r4, r5, r6, r7, r⟩ := stepR hs
      split <;> omega
end Go.Proofs.Yteilkigdlkeiaaa.Lf
