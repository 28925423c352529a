/- life.Fate, SameStays, example, by their contracts. -/
import Derived.Test.YteilkigdlkeiaaaKeep
import Derived.Test.YteilkigdlkeiaaaStays
import Derived.BigQuiet
namespace Go.Proofs.Yteilkigdlkeiaaa.Lf
set_option linter.unusedVariables false
set_option linter.unusedSimpArgs false
open Go Go.RowKit

theorem fate_eq (L : List Ev) (m : Ml) (t : Int) : fateV L m t = match keepV L m.at_, atV L t with
  | some k, some l => if k.ep = m.ep ∧ m.at_ ≤ t then (if l.st = 0 ∨ l.ep ≠ m.ep then (3, -1, 0) else if l.st = 1 then (1, l.ho, 0) else (2, -1, 0)) else (0, 0, 140)
  | _, _ => (0, 0, 140) := rfl

set_option maxHeartbeats 4000000 in
set_option maxRecDepth 100000 in
theorem fate_any (A : Option Addr) (n c : Nat) (L : List Ev) (m : Ml) (t : Int) (hn : L.length = n) (hn2 : n ≤ 140737488351232) (hc : n ≤ c) (w : World) (hE : EvsIn w A L) :
    Calls Try.prog 30 #[.slice A n c, m.v, .int .i64 t] w fun e w' => e = .returned (fateR (fateV L m t)) ∧ Below w.heap.size w w' := by
  obtain ⟨mep, mat⟩ := m
  have C1 := Lib.hid (fun (W : World) (h : EvsIn W A L) => keep_any A n c L mat hn hn2 hc W h)
  have C2 := Lib.hid (fun (W : World) (h : EvsIn W A L) => at_any A n c L t hn hn2 hc W h)
  have HF := Lib.hid (fate_eq L ⟨mep, mat⟩ t)
  show Calls _ _ #[.slice A n c, .agg #[.int .i64 mep, .int .i64 mat], .int .i64 t] _ _
  generalize fateV L ⟨mep, mat⟩ t = fv at HF
  dsimp only at HF
  generalize keepV L mat = kv at C1 HF
  generalize atV L t = av at C2 HF
  have k0 := Blk.new w #[.int .i64 mep, .int .i64 mat] 28
  have hB0 : Below w.heap.size w (w.alloc (.cells #[.int .i64 mep, .int .i64 mat] 28)) := (Below.refl _ _).alloc (Nat.le_refl _) _
  -- every way begins alike
  rcases kv with _ | ⟨kep, kat⟩ <;> rcases av with _ | ⟨st, ho, ep, si⟩
  case none.none | none.some | some.none =>
    obtain rfl : fv = (0, 0, 140) := HF.out
    dsimp only [keepR, atR, Ml.v, Ln.v, zeroM, zeroL] at C1 C2
    first
    | (rcases hq : (kep == mep) with _ | _
       all_goals (
        have hqb : (kep != mep) = !(kep == mep) := rfl
        rw [hq] at hqb
        go_enter Try.func30, Try.ntmps30
        go_wp2_with fail
        refine (C1.out _ (hE.below hB0 (Nat.le_refl _))).mono ?_
        rintro e w1 ⟨rfl, hw1⟩
        have k1 := (k0.below hw1 k0.lt).alloc (.cells #[.int .i64 kep, .int .i64 kat] 28)
        have kk := Blk.new w1 #[.int .i64 kep, .int .i64 kat] 28
        have hB1 := (hB0.trans (hw1.mono hB0.size)).alloc (hB0.trans (hw1.mono hB0.size)).size (.cells #[.int .i64 kep, .int .i64 kat] 28)
        go_wp2_with fail
        refine (C2.out _ (hE.below hB1 (Nat.le_refl _))).mono ?_
        rintro e w2 ⟨rfl, hw2⟩
        have hB2 := hB1.trans (hw2.mono hB1.size)
        have k2 := (k1.below hw2 k1.lt).alloc (.cells #[.int .i64 0, .int .i64 0, .int .i64 0, .int .i64 0] 26)
        have kk2 := (kk.below hw2 kk.lt).alloc (.cells #[.int .i64 0, .int .i64 0, .int .i64 0, .int .i64 0] 26)
        obtain ⟨m0, m1, -, -⟩ := mfacts k2
        obtain ⟨n0, n1, -, -⟩ := mfacts kk2
        go_wp2
        go_ret3
        exact ⟨rfl, hB2.alloc hB2.size _⟩))
    | (go_enter Try.func30, Try.ntmps30
       go_wp2_with fail
       refine (C1.out _ (hE.below hB0 (Nat.le_refl _))).mono ?_
       rintro e w1 ⟨rfl, hw1⟩
       have hB1 := (hB0.trans (hw1.mono hB0.size)).alloc (hB0.trans (hw1.mono hB0.size)).size (.cells #[.int .i64 0, .int .i64 0] 28)
       go_wp2_with fail
       refine (C2.out _ (hE.below hB1 (Nat.le_refl _))).mono ?_
       rintro e w2 ⟨rfl, hw2⟩
       have hB2 := hB1.trans (hw2.mono hB1.size)
       go_wp2
       go_ret3
       exact ⟨rfl, hB2.alloc hB2.size _⟩)
  case some.some =>
    dsimp only at HF
    dsimp only [keepR, atR, Ml.v, Ln.v] at C1 C2
    have bcase : ∀ x y : Int, (x = y ∧ (x == y) = true ∧ (x != y) = false) ∨ (x ≠ y ∧ (x == y) = false ∧ (x != y) = true) := fun x y => by
      by_cases h : x = y
      · exact .inl ⟨h, beq_iff_eq.2 h, by rw [bne, beq_iff_eq.2 h]; rfl⟩
      · exact .inr ⟨h, beq_eq_false_iff_ne.2 h, by rw [bne, beq_eq_false_iff_ne.2 h]; rfl⟩
    have lcase : (mat ≤ t ∧ decide (t < mat) = false) ∨ (¬ mat ≤ t ∧ decide (t < mat) = true) := by
      by_cases h : mat ≤ t
      · exact .inl ⟨h, decide_eq_false (by omega)⟩
      · exact .inr ⟨h, decide_eq_true (by omega)⟩
    rcases bcase kep mep with ⟨q1, hq, hqb⟩ | ⟨q1, hq, hqb⟩ <;> rcases lcase with ⟨q2, hlt⟩ | ⟨q2, hlt⟩ <;> rcases bcase st 0 with ⟨q3, h0, -⟩ | ⟨q3, h0, -⟩ <;> rcases bcase ep mep with ⟨q4, hp, hpb⟩ | ⟨q4, hp, hpb⟩ <;> rcases bcase st 1 with ⟨q5, h1, -⟩ | ⟨q5, h1, -⟩
    all_goals (try (exfalso; omega))
    all_goals (
      have HF2 := HF.out
      simp only [q1, q2, q3, q4, q5, ne_eq, not_true_eq_false, not_false_eq_true, true_and, and_true, and_false, false_and, or_true, true_or, or_false, false_or, if_true, if_false, false_implies, and_self, or_self, if_pos, if_neg] at HF2
      subst HF2
      clear HF bcase q1 q2 q3 q4 q5
      go_enter Try.func30, Try.ntmps30
      go_wp2_with fail
      refine (C1.out _ (hE.below hB0 (Nat.le_refl _))).mono ?_
      rintro e w1 ⟨rfl, hw1⟩
      have k1 := (k0.below hw1 k0.lt).alloc (.cells #[.int .i64 kep, .int .i64 kat] 28)
      have kk := Blk.new w1 #[.int .i64 kep, .int .i64 kat] 28
      have hB1 := (hB0.trans (hw1.mono hB0.size)).alloc (hB0.trans (hw1.mono hB0.size)).size (.cells #[.int .i64 kep, .int .i64 kat] 28)
      go_wp2_with fail
      refine (C2.out _ (hE.below hB1 (Nat.le_refl _))).mono ?_
      rintro e w2 ⟨rfl, hw2⟩
      have hB2 := hB1.trans (hw2.mono hB1.size)
      have k2 := (k1.below hw2 k1.lt).alloc (.cells #[.int .i64 st, .int .i64 ho, .int .i64 ep, .int .i64 si] 26)
      have kk2 := (kk.below hw2 kk.lt).alloc (.cells #[.int .i64 st, .int .i64 ho, .int .i64 ep, .int .i64 si] 26)
      have kl := Blk.new w2 #[.int .i64 st, .int .i64 ho, .int .i64 ep, .int .i64 si] 26
      obtain ⟨m0, m1, -, -⟩ := mfacts k2
      obtain ⟨n0, n1, -, -⟩ := mfacts kk2
      obtain ⟨c0, c1, c2, c3⟩ := line_cells (st := st) (ho := ho) (ep := ep) (si := si) kl
      replace hB2 := hB2.alloc hB2.size (.cells #[.int .i64 st, .int .i64 ho, .int .i64 ep, .int .i64 si] 26)
      have hB3 := hB2.drew
      have hmix : Try.prog.follows .mixedOrders = true := by kernel_rfl
      clear C1 C2 hw1 hw2 k1 k2 kk kk2 kl hE
      go_wp2_with fail
      first
      | (go_ret3
         exact ⟨rfl, hB2⟩)
      | (go_quiet (fail)
         go_wp2
         go_ret3
         exact ⟨rfl, drewN_below _ hB2⟩))
end Go.Proofs.Yteilkigdlkeiaaa.Lf
