/- Lives: plain laws on the lines after events. -/
import Derived.Test.YteilkigdlkeiaaaRunW
namespace Go.Proofs.Yteilkigdlkeiaaa.Lf
set_option linter.unusedVariables false
set_option linter.unusedSimpArgs false
open Go Go.RowKit

def lineFrom : Ln → List Ev → Ln
  | l, [] => l
  | l, e :: es => match step l e with
    | none => l
    | some n => lineFrom n es
def cntFrom : Ln → List Ev → Nat
  | _, [] => 0
  | l, e :: es => match step l e with
    | none => 0
    | some n => cntFrom n es + 1
def okFrom : Ln → List Ev → Bool
  | _, [] => true
  | l, e :: es => match step l e with
    | none => false
    | some n => okFrom n es
def lifeB (L : List Ev) : Bool := decide (L.length ≤ 40) && okFrom firstL L

theorem cnt_last : ∀ (es : List Ev) (i : Nat) (l : Ln) (x : Int × Ln), x.1 + 1 = i → x.2 = l → cntOf (x :: after i l es) = i + cntFrom l es ∧ lastOf (x :: after i l es) = lineFrom l es
  | [], i, l, x, h1, h2 => by simp [after, cntOf, lastOf, cntFrom, lineFrom, h1, h2]
  | e :: es, i, l, x, h1, h2 => by
    rcases hs : step l e with _ | n
    · simp [after, cntOf, lastOf, cntFrom, lineFrom, h1, h2, hs]
    · have := cnt_last es (i + 1) n ((i : Int), n) (by simp) rfl
      have e1 : cntOf (x :: ((i : Int), n) :: after (i + 1) n es) = cntOf (((i : Int), n) :: after (i + 1) n es) := by simp [cntOf, List.getLast?_cons_cons]
      have e2 : lastOf (x :: ((i : Int), n) :: after (i + 1) n es) = lastOf (((i : Int), n) :: after (i + 1) n es) := by simp [lastOf, List.getLast?_cons_cons]
      simp only [after, hs, cntFrom, lineFrom]
      rw [e1, e2]
      exact ⟨by rw [this.1]; push_cast; omega, this.2⟩
theorem cnt_items (L : List Ev) : cntOf (items L) = cntFrom firstL L := by have := (cnt_last L 0 firstL (-1, firstL) rfl rfl).1; simpa [items] using this
theorem last_items (L : List Ev) : lastOf (items L) = lineFrom firstL L := (cnt_last L 0 firstL (-1, firstL) rfl rfl).2

theorem cnt_le : ∀ (es : List Ev) (l : Ln), cntFrom l es ≤ es.length
  | [], l => Nat.le_refl _
  | e :: es, l => by
    simp only [cntFrom]
    split
    · simp
    · have := cnt_le es ‹Ln›; simp; omega
theorem ok_cnt : ∀ (es : List Ev) (l : Ln), (okFrom l es = true ↔ cntFrom l es = es.length)
  | [], l => by simp [okFrom, cntFrom]
  | e :: es, l => by
    simp only [cntFrom, okFrom]
    rcases step l e with _ | n
    · simp
    · simp [ok_cnt es]

theorem runV_life {L : List Ev} (h : lifeB L = true) : runV L = (lineFrom firstL L, (L.length : Int), 0) := by
  simp only [lifeB, Bool.and_eq_true, decide_eq_true_eq] at h
  have h2 := h.2
  rw [ok_cnt] at h2
  rw [runV, List.take_of_length_le h.1, cnt_items, last_items, h2, if_neg (by omega)]
theorem runV_not {L : List Ev} (h : lifeB L = false) : ∃ n, runV L = (zeroL, n, 140) := by
  rw [runV, cnt_items]
  refine ⟨_, if_pos ?_⟩
  by_cases hl : L.length ≤ 40
  · rw [List.take_of_length_le hl]
    have h2 : okFrom firstL L = false := by simpa [lifeB, hl] using h
    have h2 : ¬ cntFrom firstL L = L.length := fun e => by rw [(ok_cnt L firstL).2 e] at h2; cases h2
    have := cnt_le L firstL
    omega
  · have := cnt_le (L.take 40) firstL
    rw [List.length_take] at this
    omega
theorem runV_err (L : List Ev) : (runV L).2.2 = if lifeB L then 0 else 140 := by
  rcases h : lifeB L with _ | _
  · obtain ⟨n, e⟩ := runV_not h; rw [e]; rfl
  · rw [runV_life h]; rfl

theorem step_some {l : Ln} {e : Ev} {n : Ln} (h : step l e = some n) : validB l = true ∧ formedB e = true ∧ mayB l e = true ∧ n = nextL l e := by
  rw [step] at h
  split at h
  · rename_i hh
    simp only [Bool.and_eq_true] at hh
    cases h
    exact ⟨hh.1.1, hh.1.2, hh.2, rfl⟩
  · cases h
theorem next_si (l : Ln) (e : Ev) : (nextL l e).si = e.a := by unfold nextL; (repeat' split) <;> rfl
theorem may_le {l : Ln} {e : Ev} (h : mayB l e = true) : l.si ≤ e.a := by
  unfold mayB at h
  rw [Bool.and_eq_true, decide_eq_true_eq] at h
  exact h.1

/-- the events of a life ascend -/
theorem ok_mono : ∀ (es : List Ev) (l : Ln), okFrom l es = true → (∀ x ∈ es, l.si ≤ x.a) ∧ es.Pairwise (fun x y => x.a ≤ y.a)
  | [], l, h => by simp
  | e :: es, l, h => by
    simp only [okFrom] at h
    split at h
    · cases h
    · rename_i n hs
      obtain ⟨h1, h2, h3, h4⟩ := step_some hs
      have ih := ok_mono es n h
      have hle := may_le h3
      have hsi : n.si = e.a := by rw [h4, next_si]
      refine ⟨?_, List.pairwise_cons.2 ⟨fun x hx => ?_, ih.2⟩⟩
      · intro x hx
        rcases List.mem_cons.1 hx with rfl | hx
        · exact hle
        · have := ih.1 x hx; omega
      · have := ih.1 x hx; omega

/-- how many events are not after a time -/
def kAt (L : List Ev) (t : Int) : Nat := (L.takeWhile (fun e => decide (e.a ≤ t))).length
theorem kAt_le (L : List Ev) (t : Int) : kAt L t ≤ L.length := (List.takeWhile_prefix _).length_le
theorem kAt_cons (e : Ev) (es : List Ev) (t : Int) : kAt (e :: es) t = if e.a ≤ t then kAt es t + 1 else 0 := by
  simp only [kAt, List.takeWhile_cons]
  split <;> simp_all
theorem kAt_spec : ∀ (L : List Ev) (t : Int), L.Pairwise (fun x y => x.a ≤ y.a) → ∀ i (h : i < L.length), (i < kAt L t ↔ L[i].a ≤ t)
  | [], t, _, i, h => by simp at h
  | e :: es, t, hp, i, h => by
    obtain ⟨h1, h2⟩ := List.pairwise_cons.1 hp
    rw [kAt_cons]
    cases i with
    | zero => simp only [List.getElem_cons_zero]; split <;> simp_all
    | succ i =>
      have hi : i < es.length := by simpa using h
      have := kAt_spec es t h2 i hi
      simp only [List.getElem_cons_succ]
      split
      · rw [← this]; omega
      · have := h1 es[i] (List.getElem_mem _)
        constructor <;> intro <;> omega

/-- what life.at returns -/
def atV (L : List Ev) (t : Int) : Option Ln := if lifeB L && inB t 0 10000000 then some (runV (L.take (kAt L t))).1 else none
def atR (o : Option Ln) : Value := match o with
  | some l => .tuple #[l.v, .bool true]
  | none => .tuple #[zeroL.v, .bool false]

theorem life_pairwise {L : List Ev} (h : lifeB L = true) : L.Pairwise (fun x y => x.a ≤ y.a) := by
  simp only [lifeB, Bool.and_eq_true] at h
  exact (ok_mono L firstL h.2).2
end Go.Proofs.Yteilkigdlkeiaaa.Lf
