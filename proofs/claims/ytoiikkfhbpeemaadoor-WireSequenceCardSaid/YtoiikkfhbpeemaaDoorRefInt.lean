/- dialtoneref01.Int, by its contract. -/
import Derived.Test.YtoiikkfhbpeemaaDoorInt
import Derived.WalkSpells
import Derived.Lib.Strings
namespace Go.Proofs.YtoiikkfhbpeemaaDoor.RefInt
set_option linter.unusedVariables false
set_option linter.unusedSimpArgs false
open Go Go.RowKit Go.Proofs.YtoiikkfhbpeemaaDoor.PutInt Go.Proofs.YtoiikkfhbpeemaaDoor.IntW
open Go.Proofs.YtoiikkfhbpeemaaDoor.Leb

/-- the sum of what was read and one more group -/
theorem or_add (acc k m v a2 : Nat) (hk : k < 9) (ha : acc < 128 ^ k) (hm : m < 128) (hv : IntKind.u64.wrap ((m : Int) * 2 ^ (7 * k)) = (v : Int)) (h : bits BinOp.or IntKind.u64 (acc : Int) (v : Int) = (a2 : Int)) :
    IntKind.u64.wrap ((acc : Int) + (v : Int)) = (a2 : Int) := by
  obtain ⟨v', a2', h1, h2, h3, h4⟩ := or_facts acc k m hk ha hm
  rw [h1] at hv
  have hvv : v' = v := by omega
  subst hvv
  rw [h2] at h
  have : a2' = a2 := by omega
  subst this
  have hp := pow_le k hk
  rw [Nat.pow_succ] at h3
  have hv2 : v' = 128 ^ k * m := by
    have hp2 := pow_le k hk
    have hv : 128 ^ k * m ≤ 128 ^ k * 127 := Nat.mul_le_mul_left _ (by omega)
    have : (m : Int) * 2 ^ (7 * k) = ((128 ^ k * m : Nat) : Int) := by rw [IntW.pow128, Int.natCast_mul, Int.natCast_pow]; exact Int.mul_comm _ _
    rw [this, IntKind.wrap_u64] at h1
    omega
  rw [IntKind.wrap_u64]
  omega

/-- the walk's three ways to its end -/
theorem ends {s : ByteArray} {p k j z : Nat} {c : Prop} [Decidable c] {n : Int} (hp : p ≤ s.data.toList.length) (hk : k < 9) (hj : j = p + k) (hn : unzig z = n) (h : rd 9 (s.data.toList.drop p) = if c then none else some (z, k + 1)) :
    ((putL n).2 ≠ 0 → intL s.data.toList p = (0, 0, 10)) ∧ ((putL n).2 = 0 → (!(bs (putL n).1).toList == (s.extract p (j + 1)).toList) = true → intL s.data.toList p = (0, 0, 10)) ∧
      ((putL n).2 = 0 → (!(bs (putL n).1).toList == (s.extract p (j + 1)).toList) = false → intL s.data.toList p = (n, (j : Int) + 1, 0)) := by
  obtain ⟨h1, h2, h3⟩ := ref_ends hp hk hn h
  have e : (s.extract p (j + 1)).toList = (s.data.toList.drop p).take (k + 1) := by
    rw [Lib.extract_toList, show j + 1 - p = k + 1 by omega]
  have e2 : (bs (putL n).1).toList = (putL n).1 := by rw [Lib.toList_data]; rfl
  rw [e, e2]
  refine ⟨h1, fun h0 hx => h2 h0 (by simpa using hx), fun h0 hx => ?_⟩
  rw [h3 h0 (by simpa using hx)]
  congr 2; omega

set_option maxRecDepth 100000 in
set_option maxHeartbeats 4000000 in
theorem inner (s : ByteArray) (p : Nat) (w : World) (hs : s.size ≤ 140737488351232) (hp : p ≤ s.size) :
    Calls Tryd.prog 16 #[.string s, .int .i64 p] w fun e w' => e = .returned (res (intL s.data.toList p)) ∧ Below w.heap.size w w' := by
  have t1 : decide ((p : Int) < 0) = false := decide_eq_false (by omega)
  have t2 : decide (s.size < p) = false := decide_eq_false (by omega)
  have hp2 : p ≤ s.data.toList.length := by simpa using hp
  go_enter Tryd.func16, Tryd.ntmps16
  go_wp2
  go_loop [7, 8] (fun z i => ∃ k acc : Nat, k ≤ 9 ∧ i = .int .i64 k ∧ z = .int .u64 acc ∧ Hid (acc < 128 ^ k) ∧ Hid (rd 9 (s.data.toList.drop p) = cont k acc (rd (9 - k) (s.data.toList.drop (p + k))))) (fun _ i => 9 - (intOf i).toNat)
  case atStart => exact ⟨0, 0, by omega, rfl, rfl, by show 0 < _; decide, by show _ = _; rw [cont_zero]; rfl⟩
  case round =>
    obtain ⟨k, acc, hk, rfl, rfl, Hacc, Hr⟩ := hrel
    by_cases hlt : k < 9
    · obtain ⟨j, hj, hjn⟩ : ∃ j : Nat, (p : Int) + k = j ∧ j = p + k := ⟨p + k, by omega, rfl⟩
      have Hjn := Lib.hid hjn
      clear hjn
      by_cases hin : j < s.size
      · have hx : ∃ b : Nat, s[j].toNat = b ∧ b < 256 ∧ Hid (∃ h : p + k < s.data.toList.length, s.data.toList[p + k].toNat = b) :=
          ⟨s[j].toNat, rfl, s[j].toNat_lt, by
            have hjn := Hjn.out
            subst hjn
            exact ⟨by simpa using hin, rfl⟩⟩
        obtain ⟨b, hb, hbl, Hb⟩ := hx
        have e1 : (b : Int) % 128 = ((b % 128 : Nat) : Int) := by omega
        obtain ⟨m, hm, hml⟩ : ∃ m : Nat, b % 128 = m ∧ m < 128 := ⟨b % 128, rfl, by omega⟩
        rw [hm] at e1
        obtain ⟨v, a2, e2, e3, ha2, Ha2⟩ := or_facts acc k m hlt Hacc.out hml
        have HA2 := Lib.hid ha2
        have HAe := Lib.hid Ha2
        have Hm := Lib.hid hm
        have hlt63 : a2 < 9223372036854775808 := by
          have := pow_le k hlt
          rw [Nat.pow_succ] at ha2; omega
        have e3' : IntKind.u64.wrap ((acc : Int) + (v : Int)) = (a2 : Int) := by rw [or_add acc k m v a2 hlt Hacc.out hml e2 e3]
        clear e3 ha2 Ha2 hm
        by_cases hge : 128 ≤ b
        · have t3 : decide (128 ≤ (b : Int)) = true := decide_eq_true (by omega)
          go_wp2
          go_round
          case rel =>
            refine ⟨k + 1, a2, by omega, by go_num, rfl, HA2.out, ?_⟩
            obtain ⟨h1, h2⟩ := Hb.out
            have := rd_more Hr.out hlt h1 (by omega)
            show _ = _
            rw [this, HAe.out, h2, ← Hm.out, show b - 128 = b % 128 by omega]
          case measure => simp [intOf]; omega
        · have t3 : decide (128 ≤ (b : Int)) = false := decide_eq_false (by omega)
          have hfin : rd 9 (s.data.toList.drop p) = if 0 < k ∧ b = 0 then none else some (a2, k + 1) := by
            obtain ⟨h1, h2⟩ := Hb.out
            have := rd_last Hr.out hlt h1 (by omega)
            rw [this, h2, HAe.out, ← Hm.out, show b % 128 = b by omega]
          have HE : Hid (_ ∧ _ ∧ _) := ends hp2 hlt Hjn.out rfl hfin
          have hpj : p ≤ j := by omega
          have HFin := HE
          clear hfin
          by_cases hodd : a2 % 2 = 1
          · have t4 : ((a2 : Int) % 2 == 1) = true := by rw [beq_iff_eq]; omega
            have hn : -((a2 : Int) / 2) - 1 = unzig a2 := by unfold unzig; rw [if_pos hodd]; omega
            have HN := Lib.hid hn
            clear hn hodd
            clear HFin
            go_wp2_with fail
            rw [HN.out]
            generalize unzig a2 = n at HE
            refine (RefPut.any n _).mono ?_
            rintro e w' ⟨rfl, hB⟩
            generalize (putL n).2 = er at HE
            generalize (putL n).1 = tx at HE
            go_wp2
            · have h1 : er = 0 := by assumption
              have h2 : (!(bs tx).toList == (s.extract p (j + 1)).toList) = true := by assumption
              go_ret3
              exact ⟨res_eq (HE.out.2.1 h1 h2).symm, hB⟩
            · have h1 : er = 0 := by assumption
              have h2 : (!(bs tx).toList == (s.extract p (j + 1)).toList) = false := by assumption
              go_ret3
              exact ⟨res_eq (HE.out.2.2 h1 h2).symm, hB⟩
            · have h1 : ¬ er = 0 := by assumption
              go_ret3
              exact ⟨res_eq (HE.out.1 h1).symm, hB⟩
          · have t4 : ((a2 : Int) % 2 == 1) = false := by rw [beq_eq_false_iff_ne]; omega
            have hn : (a2 : Int) / 2 = unzig a2 := by unfold unzig; rw [if_neg hodd]; omega
            have HN := Lib.hid hn
            clear hn hodd
            clear HFin
            go_wp2_with fail
            rw [HN.out]
            generalize unzig a2 = n at HE
            refine (RefPut.any n _).mono ?_
            rintro e w' ⟨rfl, hB⟩
            generalize (putL n).2 = er at HE
            generalize (putL n).1 = tx at HE
            go_wp2
            · have h1 : er = 0 := by assumption
              have h2 : (!(bs tx).toList == (s.extract p (j + 1)).toList) = true := by assumption
              go_ret3
              exact ⟨res_eq (HE.out.2.1 h1 h2).symm, hB⟩
            · have h1 : er = 0 := by assumption
              have h2 : (!(bs tx).toList == (s.extract p (j + 1)).toList) = false := by assumption
              go_ret3
              exact ⟨res_eq (HE.out.2.2 h1 h2).symm, hB⟩
            · have h1 : ¬ er = 0 := by assumption
              go_ret3
              exact ⟨res_eq (HE.out.1 h1).symm, hB⟩
      · have hge : s.size ≤ j := by omega
        have HE : Hid (intL s.data.toList p = (0, 0, 10)) := intL_end hp2 Hr.out (by have := Hjn.out; simp; omega)
        clear hin
        go_wp2
        go_ret3
        exact ⟨res_eq HE.out.symm, Below.refl _ _⟩
    · obtain rfl : k = 9 := by omega
      have HE : Hid (intL s.data.toList p = (0, 0, 10)) := intL_nine hp2 Hr.out
      clear hlt hk
      go_wp2
      go_ret3
      exact ⟨res_eq HE.out.symm, Below.refl _ _⟩

set_option maxHeartbeats 1000000 in
theorem any (s : ByteArray) (n : Int) (w : World) (hs : s.size ≤ 140737488351232) :
    Calls Tryd.prog 16 #[.string s, .int .i64 n] w fun e w' => e = .returned (res (intL s.data.toList n)) ∧ Below w.heap.size w w' := by
  by_cases h : n < 0
  · have HE : Hid (intL s.data.toList n = (0, 0, 2)) := by show _ = _; unfold intL; rw [if_pos (.inl h)]
    have t1 : decide (n < 0) = true := decide_eq_true h
    clear h
    go_enter Tryd.func16, Tryd.ntmps16
    go_wp2
    go_ret3
    exact ⟨res_eq HE.out.symm, Below.refl _ _⟩
  · obtain ⟨p, rfl⟩ : ∃ p : Nat, n = p := ⟨n.toNat, by omega⟩
    by_cases hp : p ≤ s.size
    · exact inner s p w hs hp
    · have HE : Hid (intL s.data.toList p = (0, 0, 2)) := by show _ = _; unfold intL; rw [if_pos (.inr (by simp; omega))]
      have t1 : decide ((p : Int) < 0) = false := decide_eq_false h
      have t2 : decide (s.size < p) = true := decide_eq_true (by omega)
      clear h hp
      go_enter Tryd.func16, Tryd.ntmps16
      go_wp2
      go_ret3
      exact ⟨res_eq HE.out.symm, Below.refl _ _⟩

end Go.Proofs.YtoiikkfhbpeemaaDoor.RefInt
