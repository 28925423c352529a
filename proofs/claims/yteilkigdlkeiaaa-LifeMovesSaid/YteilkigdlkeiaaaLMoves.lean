/- LifeMoves: the printed law answers true. -/
import Derived.Test.YteilkigdlkeiaaaQ13
import Derived.Test.YteilkigdlkeiaaaPu
namespace Go.Proofs.Yteilkigdlkeiaaa.Q
open Go.RowKit Go.Proofs.YteilkigdlkeiaaaW.PrintWords Go.Proofs.YteilkigdlkeiaaaW.PrintLast Go.Proofs.YteilkigdlkeiaaaW.PrintMore
set_option linter.unusedVariables false
set_option linter.unusedSimpArgs false
open Go Lf

def shL (d : Int) (l : Ln) : Ln := if 0 < l.ep then ⟨l.st, l.ho, l.ep, l.si + d⟩ else l
def shE (d : Int) (e : Lf.Ev) : Lf.Ev := ⟨e.k, e.a + d, e.h⟩

theorem step_sh {l n : Ln} {e : Lf.Ev} {d : Int} (hs : Lf.step l e = some n) (hd : 0 ≤ d) (ha : e.a + d ≤ 10000000) : Lf.step (shL d l) (shE d e) = some (shL d n) := by
  obtain ⟨h1, h2, h3, hn⟩ := step_some hs
  obtain ⟨r1, r2, r3, r4, r5, r6, r7, r⟩ := stepR hs
  obtain ⟨st, ho, ep, si⟩ := l
  obtain ⟨k, a, h⟩ := e
  have g := good_facts h1
  simp only at r1 r2 r3 r4 r5 r6 r7 r ha g
  have hf : formedB (shE d ⟨k, a, h⟩) = true := by
    have h0 : 0 ≤ a := by omega
    simp only [formedB, inB, shE, Bool.and_eq_true] at h2 ⊢
    refine ⟨⟨h2.1.1, decide_eq_true ?_, decide_eq_true ?_⟩, h2.2⟩ <;> omega
  have hv : validB (shL d ⟨st, ho, ep, si⟩) = true := by
    simp only [shL]
    split
    · simp only [validB, inB, Bool.and_eq_true] at h1 ⊢
      refine ⟨⟨h1.1.1, decide_eq_true ?_, decide_eq_true ?_⟩, h1.2⟩ <;> omega
    · exact h1
  have hm : mayB (shL d ⟨st, ho, ep, si⟩) (shE d ⟨k, a, h⟩) = true := by
    simp only [shL, shE]
    by_cases hp : 0 < ep
    · rw [if_pos hp]
      simp only [mayB, Bool.and_eq_true, decide_eq_true_eq] at h3 ⊢
      refine ⟨by omega, ?_⟩
      have h4 := h3.2
      by_cases k7 : k = 7
      · subst k7
        simp only [Int.reduceEq, if_false, Bool.and_eq_true, decide_eq_true_eq, reduceIte] at h4 ⊢
        exact ⟨h4.1, by omega⟩
      · rcases r with r | r | r | r | r | r | r
        all_goals first
          | (exfalso; omega)
          | (obtain ⟨rk, _⟩ := r
             subst rk
             simpa using h4)
    · rw [if_neg hp]
      have hst : st = 0 := by
        by_cases hz : st = 0
        · exact hz
        · have := g.2.2.2.2.2.2 hz; omega
      rcases r with r | r | r | r | r | r | r
      · obtain ⟨rk, _⟩ := r
        subst rk
        simp only [mayB, Bool.and_eq_true, decide_eq_true_eq, if_true, reduceIte] at h3 ⊢
        exact ⟨by omega, h3.2⟩
      all_goals (exfalso; omega)
  have hnx : nextL (shL d ⟨st, ho, ep, si⟩) (shE d ⟨k, a, h⟩) = shL d n := by
    rw [hn]
    rw [hn] at r2 r7 r
    rcases r with r | r | r | r | r | r | r
    all_goals (
      obtain ⟨rk, _⟩ := r
      subst rk
      by_cases hp : 0 < ep
      · have h5 : 0 < ep + 1 := by omega
        simp [shL, shE, nextL, namedB, hp, h5]
      · have hst : st = 0 := by
          by_cases hz : st = 0
          · exact hz
          · have := g.2.2.2.2.2.2 hz; omega
        first
          | (exfalso; omega)
          | (have h5 : 0 < ep + 1 := by omega
             simp [shL, shE, nextL, namedB, hp, h5]))
  rw [Lf.step, hv, hf, hm, hnx]
  rfl

theorem line_sh (d : Int) (hd : 0 ≤ d) : ∀ (es : List Lf.Ev) (l : Ln), okFrom l es = true → (∀ e ∈ es, e.a + d ≤ 10000000) → okFrom (shL d l) (es.map (shE d)) = true ∧ lineFrom (shL d l) (es.map (shE d)) = shL d (lineFrom l es)
  | [], l, h, ha => ⟨rfl, rfl⟩
  | e :: es, l, h, ha => by
    simp only [okFrom] at h
    rcases hs : Lf.step l e with _ | n
    · rw [hs] at h; cases h
    · rw [hs] at h
      have := step_sh hs hd (ha e (by simp))
      simp only [List.map_cons, okFrom, lineFrom, this, hs]
      exact line_sh d hd es n h (fun x hx => ha x (by simp [hx]))
theorem kAt_sh (d : Int) (t : Int) : ∀ (L : List Lf.Ev), kAt (L.map (shE d)) (t + d) = kAt L t
  | [] => rfl
  | e :: es => by
    rw [List.map_cons, kAt_cons, kAt_cons, kAt_sh d t es]
    show (if e.a + d ≤ t + d then kAt es t + 1 else 0) = _
    by_cases h : e.a ≤ t
    · rw [if_pos h, if_pos (by omega)]
    · rw [if_neg h, if_neg (by omega)]

def mvE (d : Int) (x : SE) : SE := ⟨x.f0, x.f1 + d, x.f2⟩

theorem moves_loop (L : List SE) (hL : L.length ≤ 16) (t d : Int) (hd : 0 ≤ d) (hok : okFrom firstL (L.map toEv) = true) (ha : ∀ x ∈ L, 0 ≤ x.f1 ∧ x.f1 + d ≤ 10000000) (h0 : 0 ≤ t) (h1 : t + d ≤ 10000000) :
    ∀ (m i : Nat), L.length - i = m → i ≤ L.length → Ev (fun k => dialtonelaw14_LifeMoves.l0 k L t d ((L.take i).map (mvE d)) (i : Int)) true := by
  intro m
  induction m with
  | zero =>
    intro i hm hi
    refine ⟨1, fun k hk => ?_⟩
    obtain ⟨k, rfl⟩ : ∃ m, k = m + 1 := ⟨k - 1, by omega⟩
    have hlife := life_of hok (by simp; omega)
    have hsh := line_sh d hd (L.map toEv) firstL hok (fun e he => by
      obtain ⟨x, hx, rfl⟩ := List.mem_map.1 he
      exact (ha x hx).2)
    rw [show shL d firstL = firstL from rfl] at hsh
    have hmap : (L.map (mvE d)).map toEv = (L.map toEv).map (shE d) := by simp [List.map_map, Function.comp_def, mvE, shE, toEv]
    have hlife2 : lifeB ((L.map (mvE d)).map toEv) = true := by rw [hmap]; exact life_of hsh.1 (by simp; omega)
    have hA : life_At.f L t = some (stepT (some (lineAt (L.map toEv) t))) := by unfold life_At.f; rw [if_pos (by omega), at_is hlife h0 (by omega)]
    have hB : life_At.f (L.map (mvE d)) (t + d) = some (stepT (some (shL d (lineAt (L.map toEv) t)))) := by
      unfold life_At.f
      rw [if_pos (by rw [List.length_map]; omega), at_is hlife2 (by omega) h1, hmap]
      congr 3
      unfold lineAt
      rw [kAt_sh, ← List.map_take]
      exact (line_sh d hd ((L.map toEv).take (kAt (L.map toEv) t)) firstL (ok_tk hok _) (fun e he => by
        obtain ⟨x, hx, rfl⟩ := List.mem_map.1 (List.mem_of_mem_take he)
        exact (ha x hx).2)).2
    have g := good_facts (good_at (L := L.map toEv) t)
    generalize lineAt (L.map toEv) t = l at hA hB g
    simp only [dialtonelaw14_LifeMoves.l0]
    rw [if_neg (by omega), List.take_of_length_le (by omega), hA, w64 (n := t + d) (by omega) (by omega), hB]
    simp only [Option.bind_some, stepT, shL]
    have hsi : l.si ≤ t → wrap64 (l.si + d) = l.si + d := fun _ => w64 (by omega) (by omega)
    by_cases hp : 0 < l.ep
    · rw [if_pos hp, if_pos hp, if_pos trivial, if_pos trivial, w64 (n := l.si + d) (by omega) (by omega)]
      simp
    · rw [if_neg hp, if_neg hp, if_pos trivial, if_pos trivial]
      simp
  | succ m ih =>
    intro i hm hi
    obtain ⟨K, hK⟩ := ih (i + 1) (by omega) (by omega)
    have hi' : i < L.length := by omega
    have hx := ha L[i] (List.getElem_mem hi')
    refine ⟨K + 1, fun k hk => ?_⟩
    obtain ⟨k, rfl⟩ : ∃ m, k = m + 1 := ⟨k - 1, by omega⟩
    have := hK k (by omega)
    rw [List.take_succ_eq_append_getElem hi', List.map_append] at this
    have hwb : i ≤ 1000000000 := by omega
    have hw2 : wrap64 (L[i].f1 + d) = L[i].f1 + d := w64 (by omega) (by omega)
    simp only [dialtonelaw14_LifeMoves.l0, w_succ i hwb, rd_E hi', hw2]
    clear hw2
    rw [if_pos (by omega), if_pos (by omega), if_pos (by rw [List.length_map, List.length_take]; omega)]
    exact this

theorem moves_is (X : List SX) (hX : OkX X) (t v : Int) (ht : I64 t) (hv : I64 v) : ∃ k, dialtonelaw14_LifeMoves.f k X t v = some true := by
  obtain ⟨L, ⟨K1, hK1⟩, hok, h16⟩ := made_is X hX
  obtain ⟨a, ha, ha0, ha1⟩ := time_is L t (by omega) ht
  have hlife : lifeB (L.map toEv) = true := life_of hok (by simp; omega)
  have hpw := life_pairwise hlife
  have hts := ok_ts _ _ hok
  have hts2 : ∀ x ∈ L, 0 ≤ x.f1 ∧ x.f1 ≤ 10000000 := fun x hx => hts (toEv x) (List.mem_map.2 ⟨x, hx, rfl⟩)
  have main : ∀ room : Int, 0 ≤ room → room ≤ 10000000 - a → (∀ x ∈ L, x.f1 + room ≤ 10000000) → ∃ K, ∀ k, K ≤ k → dialtonelaw14_LifeMoves.j0 (k + 1) v L a room = some true := by
    intro room h0 h1 h2
    have hp := pk_lt (c := v) (n := room + 1) (by omega)
    obtain ⟨K, hK⟩ := moves_loop L h16 a (pk v % (room + 1)) hp.1 hok (fun x hx => ⟨(hts2 x hx).1, by have := h2 x hx; omega⟩) ha0 (by omega) _ 0 rfl (Nat.zero_le _)
    refine ⟨K, fun k hk => ?_⟩
    simp only [dialtonelaw14_LifeMoves.j0]
    rw [w64 (n := room + 1) (by omega) (by omega), lpick_is hv (by omega)]
    exact hK k hk
  by_cases hz : 0 < L.length
  · have hlast := hts2 (L[L.length - 1]'(by omega)) (List.getElem_mem _)
    have hmono : ∀ x ∈ L, x.f1 ≤ (L[L.length - 1]'(by omega)).f1 := by
      intro x hx
      obtain ⟨i, hi, rfl⟩ := List.getElem_of_mem hx
      by_cases e : i = L.length - 1
      · subst e; exact Int.le_refl _
      · have := List.pairwise_iff_getElem.1 hpw i (L.length - 1) (by simpa using hi) (by simp; omega) (by omega)
        simpa [toEv] using this
    generalize hla : (L[L.length - 1]'(by omega)).f1 = la at hlast hmono
    have hmn : mn (10000000 - a) (10000000 - la) ≤ 10000000 - a ∧ mn (10000000 - a) (10000000 - la) ≤ 10000000 - la ∧ 0 ≤ mn (10000000 - a) (10000000 - la) := by
      rw [mn_is]; split <;> omega
    obtain ⟨K2, hK2⟩ := main (mn (10000000 - a) (10000000 - la)) hmn.2.2 hmn.1 (fun x hx => by have := hmono x hx; omega)
    refine ⟨K1 + K2 + 1, ?_⟩
    unfold dialtonelaw14_LifeMoves.f dialtonelaw14_sane.f
    simp only [Option.bind_some, if_true]
    rw [show dialtoneref14_Made.f (K1 + K2 + 1) X = some L from hK1 _ (by omega)]
    simp only [Option.bind_some]
    rw [ha]
    simp only [Option.bind_some]
    have hw : wrap64 ((L.length : Int) - 1) = ((L.length - 1 : Nat) : Int) := by rw [w64 (by omega) (by omega)]; omega
    have hr : rd_T54 L ((L.length - 1 : Nat) : Int) = L[L.length - 1]'(by omega) := rd_E (by omega)
    rw [hw, hr, hla, w64 (n := 10000000 - a) (by omega) (by omega), w64 (n := 10000000 - la) (by omega) (by omega)]
    clear hw hr
    rw [if_pos (by omega), if_pos (by omega), if_pos (by omega)]
    exact hK2 (K1 + K2) (by omega)
  · obtain ⟨K2, hK2⟩ := main (10000000 - a) (by omega) (Int.le_refl _) (fun x hx => by have := List.length_pos_of_mem hx; omega)
    refine ⟨K1 + K2 + 1, ?_⟩
    unfold dialtonelaw14_LifeMoves.f dialtonelaw14_sane.f
    simp only [Option.bind_some, if_true]
    rw [show dialtoneref14_Made.f (K1 + K2 + 1) X = some L from hK1 _ (by omega)]
    simp only [Option.bind_some]
    rw [ha]
    simp only [Option.bind_some]
    rw [if_neg (by omega), w64 (n := 10000000 - a) (by omega) (by omega)]
    exact hK2 (K1 + K2) (by omega)
end Go.Proofs.Yteilkigdlkeiaaa.Q
