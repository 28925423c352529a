/- LifeEpochs: the printed law answers true. -/
import Derived.Test.YteilkigdlkeiaaaQ9
import Derived.Test.YteilkigdlkeiaaaPu
namespace Go.Proofs.Yteilkigdlkeiaaa.Q
open Go.RowKit Go.Proofs.YteilkigdlkeiaaaW.PrintWords Go.Proofs.YteilkigdlkeiaaaW.PrintLast Go.Proofs.YteilkigdlkeiaaaW.PrintMore
set_option linter.unusedVariables false
set_option linter.unusedSimpArgs false
open Go Lf

theorem gives_take {L : List Ev} {i : Nat} (h : i < L.length) : gives (L.take (i + 1)) = gives (L.take i) + (if L[i].k = 1 ∨ L[i].k = 2 then 1 else 0) := by
  rw [List.take_succ_eq_append_getElem h]
  have : ∀ (a : List Ev) (e : Ev), gives (a ++ [e]) = gives a + (if e.k = 1 ∨ e.k = 2 then 1 else 0) := by
    intro a e
    induction a with
    | nil => simp [gives]
    | cons x a ih => simp only [List.cons_append, gives, ih]; omega
  exact this _ _
theorem gives_le (L : List Ev) : 0 ≤ gives L ∧ gives L ≤ L.length := by
  induction L with
  | nil => simp [gives]
  | cons e es ih => simp only [gives, List.length_cons]; split <;> omega

theorem epochs_l1 (L : List SE) (S : List SY) (hS : S.length ≤ 100) (ln : Ln) (hA : ∀ i (h : i + 1 < S.length), S[i].f1 ≤ S[i + 1].f1 ∧ (S[i].f1 = S[i + 1].f1 → S[i].f0 = S[i + 1].f0)) (hep : ln.ep = gives (L.map toEv)) :
    ∀ (d i : Nat), S.length - i = d → 1 ≤ i → Ev (fun k => dialtonelaw14_LifeEpochs.l1 k L S 0 (L.length : Int) 0 (gives (L.map toEv)) (i : Int) ln.st ln.ho ln.ep ln.si) true := by
  intro d
  induction d with
  | zero =>
    intro i hd hi
    refine ⟨1, fun k hk => ?_⟩
    obtain ⟨k, rfl⟩ : ∃ m, k = m + 1 := ⟨k - 1, by omega⟩
    simp only [dialtonelaw14_LifeEpochs.l1]
    rw [if_neg (by omega), hep]
    simp
  | succ d ih =>
    intro i hd hi
    obtain ⟨K, hK⟩ := ih (i + 1) (by omega) (by omega)
    refine ⟨K + 1, fun k hk => ?_⟩
    obtain ⟨k, rfl⟩ : ∃ m, k = m + 1 := ⟨k - 1, by omega⟩
    have hn := hK k (by omega)
    obtain ⟨j, rfl⟩ : ∃ j, i = j + 1 := ⟨i - 1, by omega⟩
    have ha := hA j (by omega)
    have h1 : j + 1 < S.length := by omega
    have h2 : j < S.length := by omega
    have h3 : j ≤ 1000000000 := by omega
    have h4 : j + 1 ≤ 1000000000 := by omega
    have e1 := w_pred j h3
    have e2 := w_succ (j + 1) h4
    have r1 := rd_Y h1
    have r2 := rd_Y h2
    simp only [dialtonelaw14_LifeEpochs.l1, e1, e2, r1, r2]
    clear e1 e2 r1 r2
    rw [if_pos (by omega), if_pos (by omega), if_pos (by omega), if_pos (by omega), if_neg (by omega)]
    by_cases he : S[j + 1].f1 = S[j].f1
    · rw [if_pos he, if_pos (ha.2 he.symm).symm]; exact hn
    · rw [if_neg he]; exact hn

theorem epochs_l0 (L : List SE) (hL : L.length ≤ 16) (S : List SY) (hS : S.length ≤ 100) (ln : Ln) (hA : ∀ i (h : i + 1 < S.length), S[i].f1 ≤ S[i + 1].f1 ∧ (S[i].f1 = S[i + 1].f1 → S[i].f0 = S[i + 1].f0)) (hep : ln.ep = gives (L.map toEv)) :
    ∀ (d i : Nat), L.length - i = d → i ≤ L.length → Ev (fun k => dialtonelaw14_LifeEpochs.l0 k L S 0 (L.length : Int) 0 (gives ((L.map toEv).take i)) (i : Int) ln.st ln.ho ln.ep ln.si) true := by
  intro d
  induction d with
  | zero =>
    intro i hd hi
    obtain ⟨K, hK⟩ := epochs_l1 L S hS ln hA hep _ 1 rfl (Nat.le_refl _)
    refine ⟨K + 1, fun k hk => ?_⟩
    obtain ⟨k, rfl⟩ : ∃ m, k = m + 1 := ⟨k - 1, by omega⟩
    simp only [dialtonelaw14_LifeEpochs.l0]
    rw [if_neg (by omega), List.take_of_length_le (by simp; omega)]
    exact hK k (by omega)
  | succ d ih =>
    intro i hd hi
    obtain ⟨K, hK⟩ := ih (i + 1) (by omega) (by omega)
    refine ⟨K + 1, fun k hk => ?_⟩
    obtain ⟨k, rfl⟩ : ∃ m, k = m + 1 := ⟨k - 1, by omega⟩
    have hn := hK k (by omega)
    have hi' : i < L.length := by omega
    have hg := gives_take (L := L.map toEv) (i := i) (by simpa using hi')
    have hb := gives_le ((L.map toEv).take i)
    have hbl : ((L.map toEv).take i).length ≤ 16 := by rw [List.length_take, List.length_map]; omega
    have ek : ((L.map toEv)[i]'(by simpa using hi')).k = L[i].f0 := by simp [toEv]
    rw [ek] at hg
    rw [hg] at hn
    have h1 : i ≤ 1000000000 := by omega
    have e3 : -9223372036854775808 ≤ gives ((L.map toEv).take i) + 1 := by omega
    have e4 : gives ((L.map toEv).take i) + 1 ≤ 9223372036854775807 := by omega
    have e1 := w_succ i h1
    have e2 : wrap64 (gives ((L.map toEv).take i) + 1) = gives ((L.map toEv).take i) + 1 := w64 e3 e4
    simp only [dialtonelaw14_LifeEpochs.l0, e1, e2, rd_E hi']
    clear e1 e2 e3 e4
    rw [if_pos (by omega), if_pos (by omega)]
    by_cases h1 : L[i].f0 = 1
    · rw [if_pos h1]; rw [if_pos (.inl h1)] at hn; exact hn
    · rw [if_neg h1]
      by_cases h2 : L[i].f0 = 2
      · rw [if_pos h2]; rw [if_pos (.inr h2)] at hn; exact hn
      · rw [if_neg h2]; rw [if_neg (by omega), Int.add_zero] at hn; exact hn

theorem staysL_len {L : List SE} (h : L.length ≤ 16) : ((staysOf (L.map toEv) (items (L.map toEv))).map ofSy).length ≤ 100 := by
  have h1 := staysOf_len (L.map toEv) (items (L.map toEv))
  have h2 : (items (L.map toEv)).length ≤ 17 := by
    have : ∀ (es : List Ev) (i : Nat) (l : Ln), (after i l es).length ≤ es.length := by
      intro es
      induction es with
      | nil => intro i l; simp [after]
      | cons e es ih => intro i l; simp only [after]; split <;> simp; exact ih _ _
    have := this (L.map toEv) 0 firstL
    simp only [items, List.length_cons, List.length_map] at *
    omega
  rw [List.length_map]
  omega

theorem epochs_is (X : List SX) (hX : OkX X) : ∃ k, dialtonelaw14_LifeEpochs.f k X = some true := by
  obtain ⟨L, ⟨K1, hK1⟩, hok, h16⟩ := made_is X hX
  have hlife : lifeB (L.map toEv) = true := life_of hok (by simp; omega)
  have hfin := stays_fin hok
  have hep : (lineFrom firstL (L.map toEv)).ep = gives (L.map toEv) := by rw [ep_gives _ _ hok]; simp [firstL]
  obtain ⟨K2, hK2⟩ := epochs_l0 L h16 _ (staysL_len h16) (lineFrom firstL (L.map toEv)) (fun i hi => by
    have hp := List.pairwise_iff_getElem.1 hfin.2.1 i (i + 1) (by simp at hi; omega) (by simpa using hi) (by omega)
    simp only [List.getElem_map, ofSy]
    exact ⟨hp.1, hp.2.1⟩) hep _ 0 rfl (Nat.zero_le _)
  refine ⟨K1 + K2, ?_⟩
  unfold dialtonelaw14_LifeEpochs.f dialtonelaw14_sane.f
  simp only [Option.bind_some, if_true]
  rw [show dialtoneref14_Made.f (K1 + K2) X = some L from hK1 _ (by omega)]
  simp only [Option.bind_some]
  unfold life_Stays.f life_Run.f
  rw [if_pos hlife, if_pos (by omega), runV_life hlife]
  simp only [Option.bind_some, List.length_map]
  have := hK2 (K1 + K2) (by omega)
  rw [List.take_zero] at this
  exact this
end Go.Proofs.Yteilkigdlkeiaaa.Q
