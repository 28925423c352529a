/- LifeMail: the printed law answers true. -/
import Derived.Test.YteilkigdlkeiaaaQ7
import Derived.Test.YteilkigdlkeiaaaPu
namespace Go.Proofs.Yteilkigdlkeiaaa.Q
open Go.RowKit Go.Proofs.YteilkigdlkeiaaaW.PrintWords Go.Proofs.YteilkigdlkeiaaaW.PrintLast Go.Proofs.YteilkigdlkeiaaaW.PrintMore
set_option linter.unusedVariables false
set_option linter.unusedSimpArgs false
open Go Lf

theorem mx_bd {a b : Int} : a ≤ mx a b ∧ b ≤ mx a b ∧ (a ≤ 10000000 → b ≤ 10000000 → mx a b ≤ 10000000) := by rw [mx_is]; split <;> omega

/-- what is told of two fates: now, or gone for good -/
structure Fates (l0 : Ln) (A t : Int) (l1 : Ln) (B t2 : Int) : Prop where
  a : (A = 1 ∧ t = l0.ho ∧ 0 ≤ t ∧ l1.ep = l0.ep ∧ l1.st = 1) ∨ (A = 2 ∧ t = -1) ∨ (A = 3 ∧ t = -1)
  b : (B = 1 ∧ t2 = l0.ho) ∨ B = 2 ∨ B = 3
  ab : A = 3 → B = 3

/-- a fate, in numbers -/
def fateT (l0 l : Ln) : Int × Int × Int := if l.st = 0 ∨ l.ep ≠ l0.ep then (3, -1, 0) else if l.st = 1 then (1, l.ho, 0) else (2, -1, 0)
theorem fates {l0 l1 l2 : Ln} (hu : l0.st = 1 ∨ l0.st = 2) (g0 : l0.st ≠ 0 → 0 ≤ l0.ho) (m1 : l0.ep ≤ l1.ep ∧ (l1.ep = l0.ep → (l0.st = 0 → l1.st = 0) ∧ (l1.st ≠ 0 → l1.ho = l0.ho)))
    (m2 : l1.ep ≤ l2.ep ∧ (l2.ep = l1.ep → (l1.st = 0 → l2.st = 0) ∧ (l2.st ≠ 0 → l2.ho = l1.ho))) (m02 : l0.ep ≤ l2.ep ∧ (l2.ep = l0.ep → (l0.st = 0 → l2.st = 0) ∧ (l2.st ≠ 0 → l2.ho = l0.ho))) :
    (fateT l0 l1).2.2 = 0 ∧ (fateT l0 l2).2.2 = 0 ∧ (1 ≤ (fateT l0 l1).1 ∧ (fateT l0 l1).1 ≤ 3) ∧ (1 ≤ (fateT l0 l2).1 ∧ (fateT l0 l2).1 ≤ 3) ∧ Fates l0 (fateT l0 l1).1 (fateT l0 l1).2.1 l1 (fateT l0 l2).1 (fateT l0 l2).2.1 := by
  have hB : ((fateT l0 l2).1 = 1 ∧ (fateT l0 l2).2.1 = l0.ho) ∨ (fateT l0 l2).1 = 2 ∨ (fateT l0 l2).1 = 3 := by
    unfold fateT
    by_cases c1 : l2.st = 0 ∨ l2.ep ≠ l0.ep
    · rw [if_pos c1]; exact .inr (.inr rfl)
    · rw [if_neg c1]
      by_cases c2 : l2.st = 1
      · rw [if_pos c2]
        have := m02.2 (by omega)
        exact .inl ⟨rfl, this.2 (by omega)⟩
      · rw [if_neg c2]; exact .inr (.inl rfl)
  have hBz : (fateT l0 l2).2.2 = 0 := by unfold fateT; (repeat' split) <;> rfl
  by_cases c1 : l1.st = 0 ∨ l1.ep ≠ l0.ep
  · have c2 : l2.st = 0 ∨ l2.ep ≠ l0.ep := by
      by_cases c3 : l2.ep = l0.ep
      · have h1 : l1.ep = l0.ep := by omega
        have := m2.2 (by omega)
        exact .inl (this.1 (by omega))
      · exact .inr c3
    have e1 : fateT l0 l1 = (3, -1, 0) := if_pos c1
    have e2 : fateT l0 l2 = (3, -1, 0) := if_pos c2
    rw [e1, e2]
    exact ⟨rfl, rfl, by decide, by decide, ⟨.inr (.inr ⟨rfl, rfl⟩), .inr (.inr rfl), fun _ => rfl⟩⟩
  · by_cases c2 : l1.st = 1
    · have e1 : fateT l0 l1 = (1, l1.ho, 0) := by unfold fateT; rw [if_neg c1, if_pos c2]
      rw [e1]
      have := m1.2 (by omega)
      have h2 := this.2 (by omega)
      exact ⟨rfl, hBz, ⟨by simp, by simp⟩, by omega, ⟨.inl ⟨rfl, h2, by show 0 ≤ l1.ho; have := g0 (by omega); omega, by omega, c2⟩, hB, fun h => by simp at h⟩⟩
    · have e1 : fateT l0 l1 = (2, -1, 0) := by unfold fateT; rw [if_neg c1, if_neg c2]
      rw [e1]
      exact ⟨rfl, hBz, by decide, by omega, ⟨.inr (.inl ⟨rfl, rfl⟩), hB, fun h => by simp at h⟩⟩

theorem mail_j1 {l0 l1 : Ln} {A t B t2 e2 s2 : Int} (h : Fates l0 A t l1 B t2) (k : Nat) : dialtonelaw14_LifeMail.j1 (k + 1) A t B t2 false l0.st l0.ho l0.ep l0.si l0.ep s2 l1.st l1.ho l1.ep l1.si = some true := by
  obtain ⟨ha, hb, hab⟩ := h
  simp only [dialtonelaw14_LifeMail.j1]
  rw [if_neg (by decide)]
  rcases ha with ⟨rfl, h1, h2, h3, h4⟩ | ⟨rfl, h1⟩ | ⟨rfl, h1⟩
  · have hd : decide (t ≥ 0) = true := decide_eq_true h2
    rcases hb with ⟨rfl, h5⟩ | rfl | rfl
    · simp [h2, h1, h3, h4, h5, hd]; omega
    · simp [h2, h1, h3, h4, hd]; omega
    · simp [h2, h1, h3, h4, hd]; omega
  · rcases hb with ⟨rfl, h5⟩ | rfl | rfl
    · simp [h1, h5]
    · simp [h1]
    · simp [h1]
  · have := hab rfl
    subst this
    simp [h1]

theorem mail_is (X : List SX) (hX : OkX X) (t u v : Int) (ht : I64 t) (hu : I64 u) (hv : I64 v) : ∃ k, dialtonelaw14_LifeMail.f k X t u v = some true := by
  obtain ⟨L, ⟨K1, hK1⟩, hok, h16⟩ := made_is X hX
  have hlife : lifeB (L.map toEv) = true := life_of hok (by simp; omega)
  obtain ⟨a, ha, ha0, ha1⟩ := time_is L t (by omega) ht
  obtain ⟨b, hb, hb0, hb1⟩ := time_is L u (by omega) hu
  obtain ⟨c, hc, hc0, hc1⟩ := time_is L v (by omega) hv
  have hab := mx_bd (a := a) (b := b)
  have habc := mx_bd (a := mx a b) (b := c)
  have hl : L.length ≤ 140737488351232 := by omega
  have hA : life_At.f L a = some (stepT (some (lineAt (L.map toEv) a))) := by unfold life_At.f; rw [if_pos hl, at_is hlife ha0 ha1]
  have hAf : life_At.f L (mx a b) = some (stepT (some (lineAt (L.map toEv) (mx a b)))) := by unfold life_At.f; rw [if_pos hl, at_is hlife (by omega) (hab.2.2 ha1 hb1)]
  have hKp : life_Keep.f L a = some (keepT (if usedB (lineAt (L.map toEv) a) = true then some ⟨(lineAt (L.map toEv) a).ep, a⟩ else none)) := by unfold life_Keep.f; rw [if_pos hl, keep_is hlife ha0 ha1]
  have g0 := good_facts (good_at (L := L.map toEv) a)
  have g1 := good_facts (good_at (L := L.map toEv) (mx a b))
  have m1 := later_at hok hab.1
  have m2 := later_at hok habc.1
  have m02 := later_at hok (Int.le_trans hab.1 habc.1)
  have hF1 : usedB (lineAt (L.map toEv) a) = true → life_Fate.f L (lineAt (L.map toEv) a).ep a (mx a b) = some (fateV (L.map toEv) ⟨(lineAt (L.map toEv) a).ep, a⟩ (mx a b)) := fun _ => by unfold life_Fate.f; rw [if_pos hl]
  have hF2 : usedB (lineAt (L.map toEv) a) = true → life_Fate.f L (lineAt (L.map toEv) a).ep a (mx (mx a b) c) = some (fateV (L.map toEv) ⟨(lineAt (L.map toEv) a).ep, a⟩ (mx (mx a b) c)) := fun _ => by unfold life_Fate.f; rw [if_pos hl]
  have hfs1 := fun hu => fate_is hlife ha0 ha1 hab.1 (hab.2.2 ha1 hb1) hu
  have hfs2 := fun hu => fate_is hlife ha0 ha1 (Int.le_trans hab.1 habc.1) (habc.2.2 (hab.2.2 ha1 hb1) hc1) hu
  generalize hm1 : mx a b = f1 at *
  generalize hm2 : mx f1 c = f2 at *
  generalize lineAt (L.map toEv) a = l0 at *
  generalize lineAt (L.map toEv) f1 = l1 at *
  generalize lineAt (L.map toEv) f2 = l2 at *
  refine ⟨K1 + 3, ?_⟩
  unfold dialtonelaw14_LifeMail.f dialtonelaw14_sane.f
  simp only [Option.bind_some, if_true]
  rw [show dialtoneref14_Made.f (K1 + 3) X = some L from hK1 _ (by omega)]
  simp only [Option.bind_some]
  rw [ha]
  simp only [Option.bind_some]
  rw [hb]
  simp only [Option.bind_some]
  rw [hc]
  simp only [Option.bind_some]
  rw [hA, hKp, hm1, hm2]
  simp only [Option.bind_some, stepT]
  rw [if_pos trivial]
  rcases hus : usedB l0 with _ | _
  · have hn := used_st'.1 hus
    simp only [Bool.false_eq_true, if_false, keepT]
    rw [if_neg (by omega), if_neg (by decide)]
    have e : (l0.st == 2) = false := by rw [beq_eq_false_iff_ne]; omega
    simp only [dialtonelaw14_LifeMail.j0, e]
    simp
  · have hs := used_st.1 hus
    simp only [if_true, keepT]
    have hj : dialtonelaw14_LifeMail.j0 (K1 + 3) L f1 f2 0 false l0.st l0.ho l0.ep l0.si l0.ep a = some true := by
      obtain ⟨he1, he2, hAb, hBb, hfat⟩ := fates hs (fun h => (g0.2.2.2.2.2.2 h).1) m1 m2 m02
      have hf1 : fateV (L.map toEv) ⟨l0.ep, a⟩ f1 = fateT l0 l1 := hfs1 hus
      have hf2 : fateV (L.map toEv) ⟨l0.ep, a⟩ f2 = fateT l0 l2 := hfs2 hus
      generalize fateT l0 l1 = T1 at he1 hAb hfat hf1
      generalize fateT l0 l2 = T2 at he2 hBb hfat hf2
      obtain ⟨A, tw, e1⟩ := T1
      obtain ⟨B, tz, e2⟩ := T2
      simp only at he1 he2 hAb hBb hfat
      subst he1 he2
      have q := mail_j1 hfat (K1 + 1) (s2 := a) (e2 := 0)
      simp only [dialtonelaw14_LifeMail.j0]
      rw [if_neg (by decide), if_pos trivial, hF1 hus, hF2 hus, hf1, hf2, hAf]
      simp only [Option.bind_some, stepT]
      rw [if_pos trivial, if_pos trivial, if_pos trivial, if_neg (by omega), if_neg (by omega), if_neg (by omega), decide_eq_false (by omega)]
      exact q
    by_cases h1 : l0.st = 1
    · rw [if_pos h1]
      exact hj
    · have h2 : l0.st = 2 := by omega
      rw [if_neg h1]
      have e : (!(l0.st == 2)) = false := by simp [h2]
      rw [e]
      exact hj
end Go.Proofs.Yteilkigdlkeiaaa.Q
