/- LifeQuarantine: the printed law answers true. -/
import Derived.Test.YteilkigdlkeiaaaQ8
import Derived.Test.YteilkigdlkeiaaaPu
namespace Go.Proofs.Yteilkigdlkeiaaa.Q
open Go.RowKit Go.Proofs.YteilkigdlkeiaaaW.PrintWords Go.Proofs.YteilkigdlkeiaaaW.PrintLast Go.Proofs.YteilkigdlkeiaaaW.PrintMore
set_option linter.unusedVariables false
set_option linter.unusedSimpArgs false
open Go Lf

/-- is it a pass between two times? -/
def passB (e : SE) (s t : Int) : Prop := e.f0 = 2 ∧ s ≤ e.f1 ∧ e.f1 ≤ t

theorem quar_l1 (L : List SE) (hL : L.length ≤ 16) (S : List SY) (i : Nat) (a b : Sy) (hnext : Ev (fun k => dialtonelaw14_LifeQuarantine.l0 k L S (wrap64 ((i : Int) + 1))) true) :
    ∀ (d j : Nat) (p : Bool), L.length - j = d → (p = true ∨ ∃ m, ∃ h : m < L.length, j ≤ m ∧ passB L[m] a.tt b.fr) →
      Ev (fun k => dialtonelaw14_LifeQuarantine.l1 k L S (i : Int) p (j : Int) a.ho a.ep a.fr a.tt b.ho b.ep b.fr b.tt) true := by
  intro d
  induction d with
  | zero =>
    intro j p hd hp
    obtain ⟨K, hK⟩ := hnext
    refine ⟨K + 1, fun k hk => ?_⟩
    obtain ⟨k, rfl⟩ : ∃ m, k = m + 1 := ⟨k - 1, by omega⟩
    have hp' : p = true := by
      rcases hp with h | ⟨m, h, h2, _⟩
      · exact h
      · omega
    have := hK k (by omega)
    simp only [dialtonelaw14_LifeQuarantine.l1]
    rw [if_neg (by omega), if_pos hp']
    exact this
  | succ d ih =>
    intro j p hd hp
    have hj : j < L.length := by omega
    have hwb : j ≤ 1000000000 := by omega
    rcases hp with rfl | ⟨m, hm, hjm, hq⟩
    · obtain ⟨K, hK⟩ := ih (j + 1) true (by omega) (.inl rfl)
      refine ⟨K + 1, fun k hk => ?_⟩
      obtain ⟨k, rfl⟩ : ∃ m, k = m + 1 := ⟨k - 1, by omega⟩
      have := hK k (by omega)
      simp only [dialtonelaw14_LifeQuarantine.l1, w_succ j hwb]
      rw [if_pos (by omega), if_pos trivial]
      exact this
    · rcases p with _ | _
      · by_cases hpj : passB L[j] a.tt b.fr
        · obtain ⟨K, hK⟩ := ih (j + 1) true (by omega) (.inl rfl)
          refine ⟨K + 1, fun k hk => ?_⟩
          obtain ⟨k, rfl⟩ : ∃ m, k = m + 1 := ⟨k - 1, by omega⟩
          have := hK k (by omega)
          obtain ⟨q1, q2, q3⟩ := hpj
          simp only [dialtonelaw14_LifeQuarantine.l1, w_succ j hwb, rd_E hj]
          rw [if_pos (by omega), if_neg (by decide), if_pos (by omega), if_pos q1, if_pos q2, decide_eq_true q3]
          exact this
        · have hne : m ≠ j := fun e => by subst e; exact hpj hq
          obtain ⟨K, hK⟩ := ih (j + 1) false (by omega) (.inr ⟨m, hm, by omega, hq⟩)
          refine ⟨K + 1, fun k hk => ?_⟩
          obtain ⟨k, rfl⟩ : ∃ m, k = m + 1 := ⟨k - 1, by omega⟩
          have := hK k (by omega)
          simp only [dialtonelaw14_LifeQuarantine.l1, w_succ j hwb, rd_E hj]
          rw [if_pos (by omega), if_neg (by decide), if_pos (by omega)]
          by_cases q1 : L[j].f0 = 2
          · rw [if_pos q1]
            by_cases q2 : a.tt ≤ L[j].f1
            · rw [if_pos q2, decide_eq_false (fun q3 => hpj ⟨q1, q2, q3⟩)]
              exact this
            · rw [if_neg q2]; exact this
          · rw [if_neg q1]; exact this
      · obtain ⟨K, hK⟩ := ih (j + 1) true (by omega) (.inl rfl)
        refine ⟨K + 1, fun k hk => ?_⟩
        obtain ⟨k, rfl⟩ : ∃ m, k = m + 1 := ⟨k - 1, by omega⟩
        have := hK k (by omega)
        simp only [dialtonelaw14_LifeQuarantine.l1, w_succ j hwb]
        rw [if_pos (by omega), if_pos trivial]
        exact this

theorem quar_l0 (L : List SE) (hL : L.length ≤ 16) (S : List Sy) (hS : S.length ≤ 100) (hf : ∀ i (h : i < S.length), 0 ≤ S[i].fr ∧ S[i].fr < S[i].tt ∧ S[i].tt ≤ 10000001)
    (hn : ∀ i (h : i + 1 < S.length), S[i].ep ≠ S[i + 1].ep → Apart2 (L.map toEv) S[i].tt S[i + 1].fr) :
    ∀ (d i : Nat), S.length - i = d → 1 ≤ i → Ev (fun k => dialtonelaw14_LifeQuarantine.l0 k L (S.map ofSy) (i : Int)) true := by
  intro d
  induction d with
  | zero =>
    intro i hd hi
    refine ⟨1, fun k hk => ?_⟩
    obtain ⟨k, rfl⟩ : ∃ m, k = m + 1 := ⟨k - 1, by omega⟩
    simp only [dialtonelaw14_LifeQuarantine.l0, List.length_map]
    rw [if_neg (by omega)]
  | succ d ih =>
    intro i hd hi
    obtain ⟨j, rfl⟩ : ∃ j, i = j + 1 := ⟨i - 1, by omega⟩
    have hj1 : j + 1 < S.length := by omega
    have hj0 : j < S.length := by omega
    have hnx := ih (j + 1 + 1) (by omega) (by omega)
    have hwb : (j + 1) ≤ 1000000000 := by omega
    have hpb : j ≤ 1000000000 := by omega
    have r1 : rd_T62 (S.map ofSy) ((j + 1 : Nat) : Int) = ofSy S[j + 1] := by rw [rd_Y (by simpa using hj1)]; simp
    have r2 : rd_T62 (S.map ofSy) (j : Int) = ofSy S[j] := by rw [rd_Y (by simpa using hj0)]; simp
    have f1 := hf j hj0
    have f2 := hf (j + 1) hj1
    have hwd : wrap64 (S[j + 1].fr - S[j].tt) = S[j + 1].fr - S[j].tt := w64 (by omega) (by omega)
    by_cases he : S[j].ep = S[j + 1].ep
    · obtain ⟨K, hK⟩ := hnx
      refine ⟨K + 2, fun k hk => ?_⟩
      obtain ⟨k, rfl⟩ : ∃ m, k = m + 1 + 1 := ⟨k - 2, by omega⟩
      have := hK k (by omega)
      simp only [dialtonelaw14_LifeQuarantine.l0, List.length_map, w_pred j hpb, r1, r2]
      simp only [ofSy, dialtonelaw14_LifeQuarantine.j1, w_succ (j + 1) hwb]
      clear r1 r2 hwd
      rw [if_pos (by omega), if_pos (by omega), if_pos (by omega), if_pos (by omega), if_pos he, if_pos trivial]
      exact this
    · by_cases hq : S[j].tt + 2592000 ≤ S[j + 1].fr
      · obtain ⟨K, hK⟩ := hnx
        refine ⟨K + 2, fun k hk => ?_⟩
        obtain ⟨k, rfl⟩ : ∃ m, k = m + 1 + 1 := ⟨k - 2, by omega⟩
        have := hK k (by omega)
        simp only [dialtonelaw14_LifeQuarantine.l0, List.length_map, w_pred j hpb, r1, r2]
        simp only [ofSy, dialtonelaw14_LifeQuarantine.j1, w_succ (j + 1) hwb, hwd]
        clear r1 r2 hwd
        rw [if_pos (by omega), if_pos (by omega), if_pos (by omega), if_pos (by omega), if_neg he, decide_eq_true (by omega), if_pos rfl]
        exact this
      · have hpass : ∃ m, ∃ h : m < L.length, 0 ≤ m ∧ passB L[m] S[j].tt S[j + 1].fr := by
          rcases hn j hj1 he with h | ⟨p, hp, h1, h2, h3⟩
          · exact absurd h hq
          · obtain ⟨x, hx, rfl⟩ := List.mem_map.1 hp
            obtain ⟨m, hm, rfl⟩ := List.getElem_of_mem hx
            exact ⟨m, hm, Nat.zero_le _, h1, h2, h3⟩
        obtain ⟨K, hK⟩ := quar_l1 L hL (S.map ofSy) (j + 1) S[j] S[j + 1] (by rw [w_succ (j + 1) hwb]; exact hnx) _ 0 false rfl (.inr hpass)
        refine ⟨K + 2, fun k hk => ?_⟩
        obtain ⟨k, rfl⟩ : ∃ m, k = m + 1 + 1 := ⟨k - 2, by omega⟩
        have := hK k (by omega)
        simp only [dialtonelaw14_LifeQuarantine.l0, List.length_map, w_pred j hpb, r1, r2]
        simp only [ofSy, dialtonelaw14_LifeQuarantine.j1, hwd]
        clear r1 r2 hwd
        rw [if_pos (by omega), if_pos (by omega), if_pos (by omega), if_pos (by omega), if_neg he, decide_eq_false (by omega), if_neg (by decide)]
        exact this

theorem quarS_len {L : List SE} (h : L.length ≤ 16) : (staysOf (L.map toEv) (items (L.map toEv))).length ≤ 100 := by
  have h1 := staysOf_len (L.map toEv) (items (L.map toEv))
  have h2 : (items (L.map toEv)).length ≤ 17 := by
    have : ∀ (es : List Lf.Ev) (i : Nat) (l : Ln), (after i l es).length ≤ es.length := by
      intro es
      induction es with
      | nil => intro i l; simp [after]
      | cons e es ih => intro i l; simp only [after]; split <;> simp; exact ih _ _
    have := this (L.map toEv) 0 firstL
    simp only [items, List.length_cons, List.length_map] at *
    omega
  omega

theorem quarantine_is (X : List SX) (hX : OkX X) : ∃ k, dialtonelaw14_LifeQuarantine.f k X = some true := by
  obtain ⟨L, ⟨K1, hK1⟩, hok, h16⟩ := made_is X hX
  have hlife : lifeB (L.map toEv) = true := life_of hok (by simp; omega)
  have hfin := stays_fin hok
  have hS := quarS_len h16
  generalize hSS : staysOf (L.map toEv) (items (L.map toEv)) = S at hfin hS
  obtain ⟨f1, f2, f3⟩ := hfin
  obtain ⟨K2, hK2⟩ := quar_l0 L h16 S hS (fun i h => f1 S[i] (List.getElem_mem h)) (fun i h => (f3 i h).2) _ 1 rfl (Nat.le_refl _)
  refine ⟨K1 + K2, ?_⟩
  have hY : life_Stays.f L = some (S.map ofSy, 0) := by unfold life_Stays.f; rw [if_pos hlife, hSS]
  unfold dialtonelaw14_LifeQuarantine.f dialtonelaw14_sane.f
  simp only [Option.bind_some, if_true]
  rw [show dialtoneref14_Made.f (K1 + K2) X = some L from hK1 _ (by omega)]
  simp only [Option.bind_some]
  rw [hY]
  simp only [Option.bind_some]
  rw [if_pos trivial]
  exact hK2 (K1 + K2) (by omega)
end Go.Proofs.Yteilkigdlkeiaaa.Q
