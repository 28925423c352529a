/- LifeParts: the printed law answers true. -/
import Derived.Test.YteilkigdlkeiaaaQ11
import Derived.Test.YteilkigdlkeiaaaPu
namespace Go.Proofs.Yteilkigdlkeiaaa.Q
open Go.RowKit Go.Proofs.YteilkigdlkeiaaaW.PrintWords Go.Proofs.YteilkigdlkeiaaaW.PrintLast Go.Proofs.YteilkigdlkeiaaaW.PrintMore
set_option linter.unusedVariables false
set_option linter.unusedSimpArgs false
open Go Lf

theorem kAt_take {L : List Lf.Ev} (hp : L.Pairwise (fun x y => x.a ≤ y.a)) {s t : Int} (h : s ≤ t) : kAt (L.take (kAt L t)) s = kAt L s := by
  have hk := kAt_mono L h
  have hle := kAt_le L t
  have hp2 : (L.take (kAt L t)).Pairwise (fun x y => x.a ≤ y.a) := List.Pairwise.sublist (List.take_sublist _ _) hp
  have hlen : (L.take (kAt L t)).length = kAt L t := by rw [List.length_take]; omega
  have h1 := kAt_le (L.take (kAt L t)) s
  rw [hlen] at h1
  by_cases e : kAt (L.take (kAt L t)) s < kAt L s
  · have a1 := (kAt_spec L s hp _ (by omega)).1 e
    have a2 := (kAt_spec (L.take (kAt L t)) s hp2 (kAt (L.take (kAt L t)) s) (by rw [hlen]; omega)).2 (by rw [List.getElem_take]; exact a1)
    omega
  · by_cases e2 : kAt L s < kAt (L.take (kAt L t)) s
    · have a1 := (kAt_spec (L.take (kAt L t)) s hp2 (kAt L s) (by rw [hlen]; omega)).1 e2
      rw [List.getElem_take] at a1
      have := (kAt_spec L s hp (kAt L s) (by omega)).2 a1
      omega
    · omega
theorem lineAt_take {L : List Lf.Ev} (hp : L.Pairwise (fun x y => x.a ≤ y.a)) {s t : Int} (h : s ≤ t) : lineAt (L.take (kAt L t)) s = lineAt L s := by
  unfold lineAt
  rw [kAt_take hp h, List.take_take]
  congr 2
  have := kAt_mono L h
  omega

theorem parts_loop (L : List SE) (hL : L.length ≤ 16) (hp : (L.map toEv).Pairwise (fun x y => x.a ≤ y.a)) (u t : Int) (hj : Ev (fun k => dialtonelaw14_LifeParts.j1 k u L t ((kAt (L.map toEv) t : Nat) : Int)) true) :
    ∀ (d i : Nat), kAt (L.map toEv) t - i = d → i ≤ kAt (L.map toEv) t → Ev (fun k => dialtonelaw14_LifeParts.l0 k u L t (i : Int)) true := by
  have hle := kAt_le (L.map toEv) t
  rw [List.length_map] at hle
  intro d
  induction d with
  | zero =>
    intro i hd hi
    obtain rfl : i = kAt (L.map toEv) t := by omega
    obtain ⟨K, hK⟩ := hj
    refine ⟨K + 1, fun k hk => ?_⟩
    obtain ⟨k, rfl⟩ : ∃ m, k = m + 1 := ⟨k - 1, by omega⟩
    have := hK k (by omega)
    simp only [dialtonelaw14_LifeParts.l0]
    by_cases hlt : kAt (L.map toEv) t < L.length
    · have hs := kAt_spec (L.map toEv) t hp (kAt (L.map toEv) t) (by simpa using hlt)
      rw [if_pos (by omega), if_pos (by omega), rd_E hlt, if_neg (by
        intro h
        have := hs.2 (by simpa [toEv] using h)
        omega)]
      exact this
    · rw [if_neg (by omega)]; exact this
  | succ d ih =>
    intro i hd hi
    obtain ⟨K, hK⟩ := ih (i + 1) (by omega) (by omega)
    have hi' : i < L.length := by omega
    have hs := (kAt_spec (L.map toEv) t hp i (by simpa using hi')).1 (by omega)
    refine ⟨K + 1, fun k hk => ?_⟩
    obtain ⟨k, rfl⟩ : ∃ m, k = m + 1 := ⟨k - 1, by omega⟩
    have := hK k (by omega)
    have hwb : i ≤ 1000000000 := by omega
    simp only [dialtonelaw14_LifeParts.l0, w_succ i hwb, rd_E hi']
    rw [if_pos (by omega), if_pos (by omega), if_pos (by simpa [toEv] using hs)]
    exact this

theorem mn_bd {a b : Int} : mn a b ≤ a ∧ mn a b ≤ b ∧ (0 ≤ a → 0 ≤ b → 0 ≤ mn a b) := by rw [mn_is]; split <;> omega

theorem parts_is (X : List SX) (hX : OkX X) (t u : Int) (ht : I64 t) (hu : I64 u) : ∃ k, dialtonelaw14_LifeParts.f k X t u = some true := by
  obtain ⟨L, ⟨K1, hK1⟩, hok, h16⟩ := made_is X hX
  have hlife : lifeB (L.map toEv) = true := life_of hok (by simp; omega)
  have hpw := life_pairwise hlife
  obtain ⟨a, ha, ha0, ha1⟩ := time_is L t (by omega) ht
  obtain ⟨b, hb, hb0, hb1⟩ := time_is L u (by omega) hu
  have hle := kAt_le (L.map toEv) a
  rw [List.length_map] at hle
  have hmm : (L.take (kAt (L.map toEv) a)).map toEv = (L.map toEv).take (kAt (L.map toEv) a) := List.map_take
  have hlt := life_tk hlife (kAt (L.map toEv) a)
  have hl2 : (L.take (kAt (L.map toEv) a)).length ≤ 140737488351232 := by rw [List.length_take]; omega
  have hA1 : life_At.f L a = some (stepT (some (lineAt (L.map toEv) a))) := by unfold life_At.f; rw [if_pos (by omega), at_is hlife ha0 ha1]
  have hA2 : life_At.f (L.take (kAt (L.map toEv) a)) a = some (stepT (some (lineAt (L.map toEv) a))) := by
    unfold life_At.f; rw [if_pos hl2, hmm, at_is hlt ha0 ha1, lineAt_take hpw (Int.le_refl _)]
  have hm := mn_bd (a := a) (b := b)
  have hm0 := hm.2.2 ha0 hb0
  have hK : life_Keep.f L (mn a b) = some (keepT (if usedB (lineAt (L.map toEv) (mn a b)) = true then some ⟨(lineAt (L.map toEv) (mn a b)).ep, mn a b⟩ else none)) := by
    unfold life_Keep.f; rw [if_pos (by omega), keep_is hlife hm0 (by omega)]
  have hj : Ev (fun k => dialtonelaw14_LifeParts.j1 k u L a ((kAt (L.map toEv) a : Nat) : Int)) true := by
    refine ⟨2, fun k hk => ?_⟩
    obtain ⟨k, rfl⟩ : ∃ m, k = m + 1 + 1 := ⟨k - 2, by omega⟩
    simp only [dialtonelaw14_LifeParts.j1, dialtonelaw14_LifeParts.j2]
    rw [hA1]
    simp only [Option.bind_some]
    rw [if_pos (by omega), if_pos (by omega), Int.toNat_natCast, hA2]
    simp only [Option.bind_some]
    rw [hb]
    simp only [Option.bind_some]
    rw [hK]
    simp only [Option.bind_some, stepT]
    simp only [if_true, beq_self_eq_true, Bool.not_true, Bool.or_self, Bool.false_eq_true, if_false]
    rcases hus : usedB (lineAt (L.map toEv) (mn a b)) with _ | _
    · simp [keepT]
    · have hf1 := fate_is hlife hm0 (by omega) hm.1 ha1 hus
      have hus2 : usedB (lineAt ((L.map toEv).take (kAt (L.map toEv) a)) (mn a b)) = true := by rw [lineAt_take hpw hm.1]; exact hus
      have hf2 := fate_is hlt hm0 (by omega) hm.1 ha1 hus2
      rw [lineAt_take hpw hm.1, lineAt_take hpw (Int.le_refl _)] at hf2
      have hF1 : life_Fate.f L (lineAt (L.map toEv) (mn a b)).ep (mn a b) a = some (fateV (L.map toEv) ⟨(lineAt (L.map toEv) (mn a b)).ep, mn a b⟩ a) := by unfold life_Fate.f; rw [if_pos (by omega)]
      have hF2 : life_Fate.f (L.take (kAt (L.map toEv) a)) (lineAt (L.map toEv) (mn a b)).ep (mn a b) a = some (fateV (L.map toEv) ⟨(lineAt (L.map toEv) (mn a b)).ep, mn a b⟩ a) := by
        unfold life_Fate.f; rw [if_pos hl2, hmm, hf2, hf1]
      simp only [if_true, keepT]
      rw [hF1]
      simp only [Option.bind_some]
      rw [if_pos (by omega), if_pos (by omega), hF2]
      simp only [Option.bind_some]
      have hz : (fateV (L.map toEv) ⟨(lineAt (L.map toEv) (mn a b)).ep, mn a b⟩ a).2.2 = 0 := by rw [hf1]; (repeat' split) <;> rfl
      rw [if_pos hz, if_pos hz]
      simp
  obtain ⟨K2, hK2⟩ := parts_loop L h16 hpw u a hj _ 0 rfl (Nat.zero_le _)
  refine ⟨K1 + K2, ?_⟩
  unfold dialtonelaw14_LifeParts.f dialtonelaw14_sane.f
  simp only [Option.bind_some, if_true]
  rw [show dialtoneref14_Made.f (K1 + K2) X = some L from hK1 _ (by omega)]
  simp only [Option.bind_some]
  rw [ha]
  simp only [Option.bind_some]
  exact hK2 (K1 + K2) (by omega)
end Go.Proofs.Yteilkigdlkeiaaa.Q
