/- LifeRestores: the printed law answers true. -/
import Derived.Test.YteilkigdlkeiaaaQ15
import Derived.Test.YteilkigdlkeiaaaPu
namespace Go.Proofs.Yteilkigdlkeiaaa.Q
open Go.RowKit Go.Proofs.YteilkigdlkeiaaaW.PrintWords Go.Proofs.YteilkigdlkeiaaaW.PrintLast Go.Proofs.YteilkigdlkeiaaaW.PrintMore
set_option linter.unusedVariables false
set_option linter.unusedSimpArgs false
open Go Lf

theorem cnt_app : ∀ (es fs : List Lf.Ev) (l : Ln), okFrom l es = true → cntFrom l (es ++ fs) = es.length + cntFrom (lineFrom l es) fs
  | [], fs, l, _ => by simp [lineFrom]
  | e :: es, fs, l, h => by
    simp only [okFrom] at h
    rcases hs : Lf.step l e with _ | n
    · rw [hs] at h; cases h
    · rw [hs] at h
      have := cnt_app es fs n h
      simp only [List.cons_append, cntFrom, lineFrom, hs, List.length_cons, this]
      omega
theorem run_stop {A fs : List Lf.Ev} {e : Lf.Ev} (h : okFrom firstL A = true) (hs : Lf.step (lineFrom firstL A) e = none) (hl : (A ++ e :: fs).length ≤ 40) : runV (A ++ e :: fs) = (zeroL, (A.length : Int), 140) := by
  have h0 : cntFrom (lineFrom firstL A) (e :: fs) = 0 := by simp [cntFrom, hs]
  rw [runV, List.take_of_length_le hl, cnt_items, cnt_app _ _ _ h, h0, if_pos (by simp; omega)]
  rfl
theorem st5 {b : Ln} (hv : validB b = true) (hu : b.st = 1 ∨ b.st = 2) {E : Int} (h1 : b.si ≤ E) (h2 : E ≤ 10000000) : Lf.step b ⟨5, E, -1⟩ = some ⟨3, b.ho, b.ep, E⟩ := by
  have hf := good_facts hv
  have hE : formedB ⟨5, E, -1⟩ = true := by simp [formedB, inB, namedB]; omega
  have hm : mayB b ⟨5, E, -1⟩ = true := by
    simp only [mayB, decide_eq_true h1]
    rcases hu with h | h <;> simp [h]
  rw [Lf.step, hv, hE, hm]
  rfl
theorem st5n {b : Ln} (hu : ¬ (b.st = 1 ∨ b.st = 2)) {E : Int} : Lf.step b ⟨5, E, -1⟩ = none := by
  have hm : mayB b ⟨5, E, -1⟩ = false := by
    have h1 : ¬ b.st = 1 := fun h => hu (.inl h)
    have h2 : ¬ b.st = 2 := fun h => hu (.inr h)
    simp [mayB, h1, h2]
  rw [Lf.step, hm, Bool.and_false]
  rfl
theorem st6 {ho ep E R : Int} (hv : validB ⟨3, ho, ep, E⟩ = true) (h1 : E ≤ R) (h2 : R ≤ 10000000) : Lf.step ⟨3, ho, ep, E⟩ ⟨6, R, -1⟩ = some ⟨1, ho, ep, R⟩ := by
  have hf := good_facts hv
  have hE : formedB ⟨6, R, -1⟩ = true := by simp [formedB, inB, namedB]; simp at hf; omega
  have hm : mayB ⟨3, ho, ep, E⟩ ⟨6, R, -1⟩ = true := by
    simp only [mayB, decide_eq_true h1]
    rfl
  rw [Lf.step, hv, hE, hm]
  rfl
theorem st7 {ho ep E : Int} (hv : validB ⟨3, ho, ep, E⟩ = true) (h2 : E + 2592000 ≤ 10000000) : Lf.step ⟨3, ho, ep, E⟩ ⟨7, E + 2592000, -1⟩ = some ⟨0, -1, ep, E + 2592000⟩ := by
  have hf := good_facts hv
  have hE : formedB ⟨7, E + 2592000, -1⟩ = true := by simp [formedB, inB, namedB]; simp at hf; omega
  have hm : mayB ⟨3, ho, ep, E⟩ ⟨7, E + 2592000, -1⟩ = true := by
    have h1 : E ≤ E + 2592000 := by omega
    simp [mayB, h1]
  rw [Lf.step, hv, hE, hm]
  rfl
theorem st6n {ho ep E R : Int} : Lf.step ⟨0, ho, ep, E⟩ ⟨6, R, -1⟩ = none := by
  have hm : mayB ⟨0, ho, ep, E⟩ ⟨6, R, -1⟩ = false := by simp [mayB]
  rw [Lf.step, hm, Bool.and_false]
  rfl

section
variable {A : List Lf.Ev} {b : Ln} {E R t : Int}
theorem both_ok (hok : okFrom firstL A = true) (hb : lineFrom firstL A = b) (hu : b.st = 1 ∨ b.st = 2) (h1 : b.si ≤ E) (h2 : E ≤ R) (h3 : R ≤ 10000000) :
    okFrom firstL (A ++ [⟨5, E, -1⟩, ⟨6, R, -1⟩]) = true ∧ lineFrom firstL (A ++ [⟨5, E, -1⟩, ⟨6, R, -1⟩]) = ⟨1, b.ho, b.ep, R⟩ := by
  have hv : validB b = true := by rw [← hb]; exact good_line _ _ good_first
  have s5 := st5 hv hu h1 (by omega)
  have s6 := st6 (good_next s5) h2 h3
  rw [ok_app, line_app _ _ _ hok, hok, hb]
  simp only [okFrom, lineFrom, s5, s6, Bool.and_self, and_self]
theorem restore_fate (hok : okFrom firstL A = true) (hlen : A.length ≤ 30) (hb : lineFrom firstL A = b) (hu : b.st = 1 ∨ b.st = 2) (h1 : b.si ≤ E) (h2 : E ≤ R) (h3 : R ≤ 10000000) (ht0 : 0 ≤ t) (ht : t ≤ R)
    (hut : usedB (lineAt A t) = true) (hep : (lineAt A t).ep = b.ep) :
    fateV (A ++ [⟨5, E, -1⟩, ⟨6, R, -1⟩]) ⟨b.ep, t⟩ R = (1, b.ho, 0) ∨ (fateV (A ++ [⟨5, E, -1⟩, ⟨6, R, -1⟩]) ⟨b.ep, t⟩ R = (0, 0, 140) ∧ E ≤ t) := by
  obtain ⟨okB, lnB⟩ := both_ok hok hb hu h1 h2 h3
  have hv : validB b = true := by rw [← hb]; exact good_line _ _ good_first
  have s5 := st5 hv hu h1 (by omega)
  obtain ⟨B, hB⟩ : ∃ B, A ++ [(⟨5, E, -1⟩ : Lf.Ev), ⟨6, R, -1⟩] = B := ⟨_, rfl⟩
  have hBl : B.length = A.length + 2 := by rw [← hB]; simp
  have hn0 : (B[A.length]'(by omega)).a = E := by subst hB; simp
  have hn1 : (B[A.length + 1]'(by omega)).a = R := by subst hB; simp
  rw [hB] at okB lnB ⊢
  have hlife : lifeB B = true := life_of okB (by omega)
  have hp := life_pairwise hlife
  have kR := (kAt_spec B R hp (A.length + 1) (by omega)).2 (by rw [hn1]; exact Int.le_refl _)
  have kR' := kAt_le B R
  have hAtR : lineAt B R = ⟨1, b.ho, b.ep, R⟩ := by
    unfold lineAt
    rw [show kAt B R = B.length by omega, List.take_length, lnB]
  have kt0 := kAt_spec B t hp A.length (by omega)
  have kt1 := kAt_spec B t hp (A.length + 1) (by omega)
  rw [hn0] at kt0
  rw [hn1] at kt1
  have key : usedB (lineAt B t) = true → (lineAt B t).ep = b.ep → fateV B ⟨b.ep, t⟩ R = (1, b.ho, 0) := by
    intro hu2 he2
    have := fate_is hlife ht0 (by omega) ht h3 hu2
    rw [he2, hAtR] at this
    rw [this]
    simp
  by_cases hlt : t < E
  · left
    have hk : kAt B t = kAt A t := by
      have hx : ¬ E ≤ t := by omega
      rw [← hB]
      unfold kAt
      rw [List.takeWhile_append]
      have : List.takeWhile (fun e : Lf.Ev => decide (e.a ≤ t)) [⟨5, E, -1⟩, ⟨6, R, -1⟩] = [] := by simp [hx]
      rw [this]
      split <;> simp_all
    have hl : lineAt B t = lineAt A t := by
      unfold lineAt
      rw [hk, ← hB, List.take_append_of_le_length (kAt_le A t)]
    exact key (by rw [hl]; exact hut) (by rw [hl]; exact hep)
  · by_cases hR : t < R
    · right
      have hk : kAt B t = A.length + 1 := by omega
      have hl : lineAt B t = ⟨3, b.ho, b.ep, E⟩ := by
        unfold lineAt
        rw [hk, ← hB, List.take_length_add_append, line_app _ _ _ hok, hb]
        simp only [List.take_succ_cons, List.take_zero, lineFrom, s5]
      refine ⟨?_, by omega⟩
      rw [fateV]
      simp only [keep_is hlife ht0 (by omega : t ≤ 10000000), hl]
      rfl
    · obtain rfl : t = R := by omega
      left
      exact key (by rw [hAtR]; rfl) (by rw [hAtR])
end

theorem restores_is (X : List SX) (hX : OkX X) (later back u : Int) (hl : I64 later) (hbk : I64 back) (hu64 : I64 u) : ∃ k, dialtonelaw14_LifeRestores.f k X later back u = some true := by
  obtain ⟨L, ⟨K1, hK1⟩, hok, h16⟩ := made_is X hX
  have hlife : lifeB (L.map toEv) = true := life_of hok (by simp; omega)
  have hlm : (L.map toEv).length = L.length := List.length_map _
  obtain ⟨b, hb⟩ : ∃ b, lineFrom firstL (L.map toEv) = b := ⟨_, rfl⟩
  have hv : validB b = true := by rw [← hb]; exact good_line _ _ good_first
  have hg := good_facts hv
  have hp1 := pk_lt (c := later) (n := 100) (by omega)
  have hp2 := pk_lt (c := back) (n := 3000000) (by omega)
  have hq1 : dialtonelaw14_pick.f later 100 = some (pk later % 100) := lpick_is hl (by omega)
  have hq2 : dialtonelaw14_pick.f back 3000000 = some (pk back % 3000000) := lpick_is hbk (by omega)
  generalize pk later % 100 = p1 at hp1 hq1
  generalize pk back % 3000000 = p2 at hp2 hq2
  obtain ⟨E, hE, hE1, hE2⟩ : ∃ E, mn (wrap64 (b.si + p1)) 10000000 = E ∧ b.si ≤ E ∧ E ≤ 10000000 := ⟨_, rfl, by rw [w64 (by omega) (by omega), mn_is]; split <;> omega, by rw [mn_is]; split <;> omega⟩
  obtain ⟨R, hR, hR1, hR2⟩ : ∃ R, mn (wrap64 (E + p2)) 10000000 = R ∧ E ≤ R ∧ R ≤ 10000000 := ⟨_, rfl, by rw [w64 (by omega) (by omega), mn_is]; split <;> omega, by rw [mn_is]; split <;> omega⟩
  obtain ⟨t, ht, ht0, ht1⟩ := time_is L u (by omega) hu64
  have hR0 : life_Run.f L = some (b.st, b.ho, b.ep, b.si, (L.length : Int), 0) := by
    unfold life_Run.f
    rw [if_pos (by omega), runV_life hlife, hb, hlm]
  have hmB : (L ++ [(⟨5, E, -1⟩ : SE), ⟨6, R, -1⟩]).map toEv = L.map toEv ++ [⟨5, E, -1⟩, ⟨6, R, -1⟩] := by simp [toEv]
  have hw : wrap64 (E + 2592000) = E + 2592000 := w64 (by omega) (by omega)
  refine ⟨K1 + 1 + 1 + 1 + 1 + 1, ?_⟩
  unfold dialtonelaw14_LifeRestores.f dialtonelaw14_sane.f
  simp only [Option.bind_some, if_true]
  rw [show dialtoneref14_Made.f (K1 + 1 + 1 + 1 + 1 + 1) X = some L from hK1 _ (by omega)]
  simp only [Option.bind_some, hR0, if_true, hq1, hq2, hE, hR, List.nil_append, List.length_nil, Nat.zero_add]
  rw [if_pos (by omega)]
  simp only [List.length_cons, List.length_nil]
  rw [if_pos (by omega)]
  by_cases hu : b.st = 1 ∨ b.st = 2
  · obtain ⟨okB, lnB⟩ := both_ok hok hb hu hE1 hR1 hR2
    have hlB : lifeB (L.map toEv ++ [⟨5, E, -1⟩, ⟨6, R, -1⟩]) = true := life_of okB (by simp; omega)
    have hRB : life_Run.f (L ++ [(⟨5, E, -1⟩ : SE), ⟨6, R, -1⟩]) = some (1, b.ho, b.ep, R, ((L.length + 2 : Nat) : Int), 0) := by
      unfold life_Run.f
      rw [if_pos (by simp; omega), hmB, runV_life hlB, lnB]
      simp
    have s5 := st5 hv hu hE1 hE2
    have g5 := good_next s5
    have hj3 : dialtonelaw14_LifeRestores.j3 (K1 + 1 + 1) L 5 E (-1) 6 R (-1) = some true := by
      simp only [dialtonelaw14_LifeRestores.j3, hw]
      by_cases hx : E + 2592000 > 10000000
      · rw [if_pos hx]
      · rw [if_neg hx]
        have s7 := st7 g5 (by omega)
        have ok7 : okFrom firstL (L.map toEv ++ [⟨5, E, -1⟩, ⟨7, E + 2592000, -1⟩]) = true ∧ lineFrom firstL (L.map toEv ++ [⟨5, E, -1⟩, ⟨7, E + 2592000, -1⟩]) = ⟨0, -1, b.ep, E + 2592000⟩ := by
          rw [ok_app, line_app _ _ _ hok, hok, hb]
          simp only [okFrom, lineFrom, s5, s7, Bool.and_self, and_self]
        have hl7 : lifeB (L.map toEv ++ [⟨5, E, -1⟩, ⟨7, E + 2592000, -1⟩]) = true := life_of ok7.1 (by simp; omega)
        have hm7 : (L ++ [(⟨5, E, -1⟩ : SE), ⟨7, E + 2592000, -1⟩]).map toEv = L.map toEv ++ [⟨5, E, -1⟩, ⟨7, E + 2592000, -1⟩] := by simp [toEv]
        have hm8 : (L ++ [(⟨5, E, -1⟩ : SE), ⟨7, E + 2592000, -1⟩] ++ [(⟨6, E + 2592000, -1⟩ : SE)]).map toEv = (L.map toEv ++ [⟨5, E, -1⟩, ⟨7, E + 2592000, -1⟩]) ++ ⟨6, E + 2592000, -1⟩ :: [] := by simp [toEv]
        have hR7 : life_Run.f (L ++ [(⟨5, E, -1⟩ : SE), ⟨7, E + 2592000, -1⟩]) = some (0, -1, b.ep, E + 2592000, ((L.length + 2 : Nat) : Int), 0) := by
          unfold life_Run.f
          rw [if_pos (by simp; omega), hm7, runV_life hl7, ok7.2]
          simp
        have hR8 : life_Run.f (L ++ [(⟨5, E, -1⟩ : SE), ⟨7, E + 2592000, -1⟩] ++ [(⟨6, E + 2592000, -1⟩ : SE)]) = some (0, 0, 0, 0, ((L.length + 2 : Nat) : Int), 140) := by
          unfold life_Run.f
          rw [if_pos (by simp; omega), hm8, run_stop ok7.1 (by rw [ok7.2]; exact st6n) (by simp; omega)]
          simp [zeroL]
        simp only [Option.bind_some, List.nil_append, List.length_nil, Nat.zero_add]
        rw [if_pos (by omega)]
        simp only [List.length_cons, List.length_nil]
        rw [if_pos (by omega), hR7]
        simp only [Option.bind_some]
        rw [if_pos (by simp; omega), hR8]
        simp
    have hj2 : ∀ x, (x = true → t ≤ R ∧ (lineAt (L.map toEv) t).ep = b.ep ∧ usedB (lineAt (L.map toEv) t) = true) → ∀ y, (x = true → y = b.ep) →
        dialtonelaw14_LifeRestores.j2 (K1 + 1 + 1 + 1) L (L ++ [(⟨5, E, -1⟩ : SE), ⟨6, R, -1⟩]) x b.st b.ho b.ep b.si 5 E (-1) 6 R (-1) y t = some true := by
      intro x hx y hy
      simp only [dialtonelaw14_LifeRestores.j2]
      rcases x with _ | _
      · rw [if_neg (by decide)]; exact hj3
      · obtain ⟨x1, x2, x3⟩ := hx rfl
        obtain rfl := hy rfl
        rw [if_pos rfl]
        have hF : life_Fate.f (L ++ [(⟨5, E, -1⟩ : SE), ⟨6, R, -1⟩]) b.ep t R = some (fateV (L.map toEv ++ [⟨5, E, -1⟩, ⟨6, R, -1⟩]) ⟨b.ep, t⟩ R) := by
          unfold life_Fate.f
          rw [if_pos (by simp; omega), hmB]
        rw [hF]
        simp only [Option.bind_some]
        rcases restore_fate hok (by omega) hb hu hE1 hR1 hR2 ht0 x1 x3 x2 with h | ⟨h, h'⟩
        · rw [h]
          simp only [if_true]
          exact hj3
        · rw [h, if_neg (by decide), if_neg (by omega)]
          exact hj3
    have hj1 : dialtonelaw14_LifeRestores.j1 (K1 + 1 + 1 + 1 + 1) u L (L ++ [(⟨5, E, -1⟩ : SE), ⟨6, R, -1⟩]) false b.st b.ho b.ep b.si 5 E (-1) 6 R (-1) = some true := by
      simp only [dialtonelaw14_LifeRestores.j1]
      rw [if_neg (by decide), ht]
      simp only [Option.bind_some]
      have hK : life_Keep.f L t = some (keepT (if usedB (lineAt (L.map toEv) t) = true then some ⟨(lineAt (L.map toEv) t).ep, t⟩ else none)) := by
        unfold life_Keep.f; rw [if_pos (by omega), keep_is hlife ht0 ht1]
      rcases hus : usedB (lineAt (L.map toEv) t) with _ | _
      · rw [hus] at hK
        rw [show life_Keep.f L t = some (0, 0, 140) from hK]
        simp only [Option.bind_some]
        rw [if_neg (by decide)]
        simp only [dialtonelaw14_LifeRestores.j2]
        rw [if_neg (by decide)]
        exact hj3
      · rw [hus] at hK
        rw [show life_Keep.f L t = some ((lineAt (L.map toEv) t).ep, t, 0) from hK]
        simp only [Option.bind_some, if_true]
        by_cases he : (lineAt (L.map toEv) t).ep = b.ep
        · rw [if_pos he]
          exact hj2 _ (fun h => ⟨of_decide_eq_true h, he, hus⟩) _ (fun _ => he)
        · rw [if_neg he]
          exact hj2 _ (fun h => by cases h) _ (fun h => by cases h)
    have hj0 : dialtonelaw14_LifeRestores.j0 (K1 + 1 + 1 + 1 + 1 + 1) u L (L ++ [(⟨5, E, -1⟩ : SE), ⟨6, R, -1⟩]) ((L.length + 2 : Nat) : Int) 0 false b.st b.ho b.ep b.si 5 E (-1) 6 R (-1) 1 b.ho b.ep R = some true := by
      simp only [dialtonelaw14_LifeRestores.j0]
      rw [if_neg (by decide)]
      have hs : (!((1 : Int) == 1) || (!(b.ho == b.ho) || (!(b.ep == b.ep) || (!(R == R))))) = false := by simp
      rw [hs]
      simp only [if_true]
      exact hj1
    rw [hRB]
    simp only [Option.bind_some]
    by_cases h1 : b.st = 1
    · rw [if_pos h1]; exact hj0
    · have h2 : b.st = 2 := hu.resolve_left h1
      rw [if_neg h1, show (b.st != 2) = false by rw [h2]; rfl]
      exact hj0
  · have hRB : life_Run.f (L ++ [(⟨5, E, -1⟩ : SE), ⟨6, R, -1⟩]) = some (0, 0, 0, 0, (L.length : Int), 140) := by
      unfold life_Run.f
      rw [if_pos (by simp; omega), hmB, run_stop hok (by rw [hb]; exact st5n hu) (by simp; omega), hlm]
      rfl
    rw [hRB]
    simp only [Option.bind_some]
    have h1 : ¬ b.st = 1 := fun h => hu (.inl h)
    have h2 : ¬ b.st = 2 := fun h => hu (.inr h)
    rw [if_neg h1, show (b.st != 2) = true by simp [h2]]
    simp only [dialtonelaw14_LifeRestores.j0]
    simp
end Go.Proofs.Yteilkigdlkeiaaa.Q
