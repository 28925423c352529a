/- LifeStays: the printed law answers true. -/
import Derived.Test.YteilkigdlkeiaaaQ10
import Derived.Test.YteilkigdlkeiaaaPu
namespace Go.Proofs.Yteilkigdlkeiaaa.Q
open Go.RowKit Go.Proofs.YteilkigdlkeiaaaW.PrintWords Go.Proofs.YteilkigdlkeiaaaW.PrintLast Go.Proofs.YteilkigdlkeiaaaW.PrintMore
set_option linter.unusedVariables false
set_option linter.unusedSimpArgs false
open Go Lf

def conB (s : Sy) (t : Int) : Bool := decide (s.fr ≤ t) && decide (t < s.tt)
def cntS (S : List Sy) (t : Int) : Int := ((S.filter fun s => conB s t).length : Int)
theorem cntS_take {S : List Sy} {t : Int} {i : Nat} (h : i < S.length) : cntS (S.take (i + 1)) t = cntS (S.take i) t + (if conB S[i] t = true then 1 else 0) := by
  unfold cntS
  rw [List.take_succ_eq_append_getElem h, List.filter_append]
  by_cases hc : conB S[i] t = true
  · simp [hc]
  · simp [hc]
theorem cntS_bd (S : List Sy) (t : Int) : 0 ≤ cntS S t ∧ cntS S t ≤ S.length := by
  unfold cntS
  have := List.length_filter_le (fun s => conB s t) S
  omega
theorem cntS_one : ∀ (S : List Sy) (t : Int), S.Pairwise PR2 → cntS S t ≤ 1
  | [], t, h => by simp [cntS]
  | s :: S, t, h => by
    obtain ⟨h1, h2⟩ := List.pairwise_cons.1 h
    by_cases hc : conB s t = true
    · have : S.filter (fun s => conB s t) = [] := by
        rw [List.filter_eq_nil_iff]
        intro b hb hcb
        have := (h1 b hb).2.2
        simp only [conB, Bool.and_eq_true, decide_eq_true_eq] at hc hcb
        omega
      simp [cntS, List.filter_cons, hc, this]
    · have := cntS_one S t h2
      simp only [cntS, List.filter_cons, hc] at this ⊢
      simpa using this
theorem cntS_pos {S : List Sy} {t : Int} : 0 < cntS S t ↔ ∃ s, s ∈ S ∧ s.fr ≤ t ∧ t < s.tt := by
  unfold cntS
  rw [show (0 < ((S.filter fun s => conB s t).length : Int)) ↔ 0 < (S.filter fun s => conB s t).length by omega, List.length_pos_iff_exists_mem]
  constructor
  · rintro ⟨s, hs⟩
    rw [List.mem_filter] at hs
    simp only [conB, Bool.and_eq_true, decide_eq_true_eq] at hs
    exact ⟨s, hs.1, hs.2.1, hs.2.2⟩
  · rintro ⟨s, h1, h2, h3⟩
    exact ⟨s, List.mem_filter.2 ⟨h1, by simp [conB, h2, h3]⟩⟩

theorem stays_loop (S : List Sy) (hS : S.length ≤ 100) (t : Int) (ln : Ln) (hf : ∀ i (h : i < S.length), 0 ≤ S[i].fr ∧ S[i].fr < S[i].tt ∧ S[i].tt ≤ 10000001)
    (hn : ∀ i (h : i + 1 < S.length), S[i].tt ≤ S[i + 1].fr ∧ (S[i].tt = S[i + 1].fr → S[i].ep ≠ S[i + 1].ep)) (hm : ∀ i (h : i < S.length), conB S[i] t = true → S[i].ep = ln.ep ∧ S[i].ho = ln.ho)
    (hc : cntS S t = if ln.st = 1 ∨ ln.st = 2 then 1 else 0) :
    ∀ (d i : Nat), S.length - i = d → i ≤ S.length → Ev (fun k => dialtonelaw14_LifeStays.l0 k t (S.map ofSy) (cntS (S.take i) t) (i : Int) ln.st ln.ho ln.ep ln.si) true := by
  intro d
  induction d with
  | zero =>
    intro i hd hi
    refine ⟨1, fun k hk => ?_⟩
    obtain ⟨k, rfl⟩ : ∃ m, k = m + 1 := ⟨k - 1, by omega⟩
    simp only [dialtonelaw14_LifeStays.l0, List.length_map]
    rw [if_neg (by omega), List.take_of_length_le (by omega), hc]
    by_cases h1 : ln.st = 1
    · simp [h1]
    · by_cases h2 : ln.st = 2
      · simp [h2]
      · simp [h1, h2]
  | succ d ih =>
    intro i hd hi
    have hi' : i < S.length := by omega
    obtain ⟨K, hK⟩ := ih (i + 1) (by omega) (by omega)
    have fi := hf i hi'
    have mi := hm i hi'
    have hct := cntS_take (t := t) hi'
    have hcb := cntS_bd (S.take i) t
    have hcl : (S.take i).length ≤ 100 := by rw [List.length_take]; omega
    have hi'' : i < (S.map ofSy).length := by simpa using hi'
    have r1 : rd_T62 (S.map ofSy) (i : Int) = ofSy S[i] := by rw [rd_Y hi'']; simp
    have hwb : i ≤ 1000000000 := by omega
    have hb2 : -9223372036854775808 ≤ cntS (S.take i) t + 1 := by omega
    have hb3 : cntS (S.take i) t + 1 ≤ 9223372036854775807 := by omega
    -- the two ways behind the test of the bounds
    have J3 : ∀ k, K ≤ k → dialtonelaw14_LifeStays.j3 (k + 1) t (S.map ofSy) (cntS (S.take i) t) (i : Int) (conB S[i] t) ln.st ln.ho ln.ep ln.si = some true := by
      intro k hk
      have hk2 := hK k hk
      simp only at hk2
      rw [hct] at hk2
      simp only [dialtonelaw14_LifeStays.j3, r1, ofSy, w_succ i hwb, w64 hb2 hb3, List.length_map]
      by_cases hcc : conB S[i] t = true
      · rw [if_pos hcc] at hk2 ⊢
        have := mi hcc
        rw [if_pos (by omega), if_pos (by omega), if_pos this.1, if_pos this.2]
        exact hk2
      · rw [if_neg hcc] at hk2 ⊢
        rw [Int.add_zero] at hk2
        exact hk2
    have J2 : ∀ k, K ≤ k → dialtonelaw14_LifeStays.j2 (k + 1 + 1) t (S.map ofSy) (cntS (S.take i) t) (i : Int) false ln.st ln.ho ln.ep ln.si S[i].fr S[i].tt = some true := by
      intro k hk
      have := J3 k hk
      simp only [dialtonelaw14_LifeStays.j2]
      rw [if_neg (by decide)]
      by_cases hfr : S[i].fr ≤ t
      · rw [if_pos hfr]
        have e : decide (t < S[i].tt) = conB S[i] t := by simp [conB, hfr]
        rw [e]; exact this
      · rw [if_neg hfr]
        have e : false = conB S[i] t := by simp [conB, hfr]
        rw [e]; exact this
    refine ⟨K + 3, fun k hk => ?_⟩
    obtain ⟨k, rfl⟩ : ∃ m, k = m + 1 + 1 + 1 := ⟨k - 3, by omega⟩
    have hj := J2 k (by omega)
    rcases i with _ | j
    · have c1 : ¬ S[0].fr < 0 := by omega
      have c2 : ¬ S[0].fr ≥ S[0].tt := by omega
      have c3 : ¬ S[0].tt > 10000001 := by omega
      simp only [dialtonelaw14_LifeStays.l0]
      rw [r1, if_pos (by rw [List.length_map]; omega), if_pos (by omega)]
      show (if S[0].fr < 0 then _ else if S[0].fr ≥ S[0].tt then _ else if S[0].tt > 10000001 then _ else if ((0 : Nat) : Int) > 0 then _ else _) = _
      rw [if_neg c1, if_neg c2, if_neg c3, if_neg (by omega)]
      exact hj
    · have hj' : j < (S.map ofSy).length := by simp; omega
      have r2 : rd_T62 (S.map ofSy) (j : Int) = ofSy (S[j]'(by omega)) := by rw [rd_Y hj']; simp
      have nj := hn j hi'
      have hpb : j ≤ 1000000000 := by omega
      have hjl : j < S.length := by omega
      have c1 : ¬ S[j + 1].fr < 0 := by omega
      have c2 : ¬ S[j + 1].fr ≥ S[j + 1].tt := by omega
      have c3 : ¬ S[j + 1].tt > 10000001 := by omega
      have c4 : ¬ S[j + 1].fr < S[j].tt := by omega
      simp only [dialtonelaw14_LifeStays.l0]
      rw [w_pred j hpb, r1, r2, if_pos (by rw [List.length_map]; omega), if_pos (by omega)]
      show (if S[j + 1].fr < 0 then _ else if S[j + 1].fr ≥ S[j + 1].tt then _ else if S[j + 1].tt > 10000001 then _ else if ((j + 1 : Nat) : Int) > 0 then (if 0 ≤ (j : Int) then (if (j : Int) < _ then (if S[j + 1].fr < S[j].tt then _ else if S[j + 1].fr = S[j].tt then _ else _) else _) else _) else _) = _
      rw [if_neg c1, if_neg c2, if_neg c3, if_pos (by omega), if_pos (by omega), if_pos (by rw [List.length_map]; omega), if_neg c4]
      by_cases he : S[j + 1].fr = S[j].tt
      · rw [if_pos he]
        have e : (S[j + 1].ep == S[j].ep) = false := by rw [beq_eq_false_iff_ne]; exact fun hh => nj.2 he.symm hh.symm
        show dialtonelaw14_LifeStays.j2 _ _ _ _ _ (S[j + 1].ep == S[j].ep) _ _ _ _ _ _ = _
        rw [e]; exact hj
      · rw [if_neg he]; exact hj

theorem staysS_len {L : List SE} (h : L.length ≤ 16) : (staysOf (L.map toEv) (items (L.map toEv))).length ≤ 100 := by
  have h1 := staysOf_len (L.map toEv) (items (L.map toEv))
  have h2 : (items (L.map toEv)).length ≤ 17 := by
    have : ∀ (es : List Lf.Ev) (i : Nat) (l : Ln), (after i l es).length ≤ es.length := by
      intro es
      induction es with
      | nil => intro i l; simp [after]
      | cons e es ih => intro i l; simp only [after]; split <;> simp; exact ih _ _
    have := this (L.map toEv) 0 firstL
    simp only [items, List.length_cons, List.length_map] at *
    omega
  omega

theorem stays_is (X : List SX) (hX : OkX X) (t : Int) (ht : I64 t) : ∃ k, dialtonelaw14_LifeStays.f k X t = some true := by
  obtain ⟨L, ⟨K1, hK1⟩, hok, h16⟩ := made_is X hX
  have hlife : lifeB (L.map toEv) = true := life_of hok (by simp; omega)
  have hfin := stays_fin hok
  obtain ⟨a, ha, h0, h1⟩ := time_is L t (by omega) ht
  have hat := stays_at hok h0 h1
  have hS := staysS_len h16
  generalize hSS : staysOf (L.map toEv) (items (L.map toEv)) = S at hfin hat hS
  obtain ⟨f1, f2, f3⟩ := hfin
  obtain ⟨K2, hK2⟩ := stays_loop S hS a (lineAt (L.map toEv) a) (fun i h => f1 S[i] (List.getElem_mem h)) (fun i h => ⟨(List.pairwise_iff_getElem.1 f2 i (i + 1) (by omega) h (by omega)).2.2, (f3 i h).1⟩)
    (fun i h hc => by
      simp only [conB, Bool.and_eq_true, decide_eq_true_eq] at hc
      have := (hat S[i].ep S[i].ho).1 ⟨S[i], List.getElem_mem h, hc.1, hc.2, rfl, rfl⟩
      exact ⟨this.2.1.symm, this.2.2.symm⟩)
    (by
      have h1' := cntS_one S a f2
      have h2 := cntS_bd S a
      have h3 := cntS_pos (S := S) (t := a)
      by_cases hu : (lineAt (L.map toEv) a).st = 1 ∨ (lineAt (L.map toEv) a).st = 2
      · rw [if_pos hu]
        obtain ⟨s, q1, q2, q3, _⟩ := (hat _ _).2 ⟨used_st.2 hu, rfl, rfl⟩
        have := h3.2 ⟨s, q1, q2, q3⟩
        omega
      · rw [if_neg hu]
        by_cases hz : 0 < cntS S a
        · obtain ⟨s, q1, q2, q3⟩ := h3.1 hz
          exact absurd (used_st.1 ((hat s.ep s.ho).1 ⟨s, q1, q2, q3, rfl, rfl⟩).1) hu
        · omega) _ 0 rfl (Nat.zero_le _)
  refine ⟨K1 + K2 + 1, ?_⟩
  have hA : life_At.f L a = some (stepT (some (lineAt (L.map toEv) a))) := by unfold life_At.f; rw [if_pos (by omega), at_is hlife h0 h1]
  have hY : life_Stays.f L = some (S.map ofSy, 0) := by unfold life_Stays.f; rw [if_pos hlife, hSS]
  unfold dialtonelaw14_LifeStays.f dialtonelaw14_sane.f
  simp only [Option.bind_some, if_true]
  rw [show dialtoneref14_Made.f (K1 + K2 + 1) X = some L from hK1 _ (by omega)]
  simp only [Option.bind_some]
  rw [ha]
  simp only [Option.bind_some]
  rw [hY, hA]
  simp only [Option.bind_some, stepT, dialtonelaw14_LifeStays.j0]
  have := hK2 (K1 + K2) (by omega)
  simpa [cntS] using this
end Go.Proofs.Yteilkigdlkeiaaa.Q
