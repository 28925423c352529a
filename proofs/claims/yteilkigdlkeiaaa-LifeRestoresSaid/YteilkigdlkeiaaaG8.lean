/- life.Fate, SameStays, example, by their contracts. SameStays and example, by their contracts. -/
import Derived.Test.YteilkigdlkeiaaaG6
import Derived.Test.YteilkigdlkeiaaaG7
import Derived.BigQuiet
import Derived.Test.YteilkigdlkeiaaaG5
namespace Go.Proofs.Yteilkigdlkeiaaa.Lf
set_option linter.unusedVariables false
set_option linter.unusedSimpArgs false
open Go Go.RowKit

theorem fate_eq (L : List Ev) (m : Ml) (t : Int) : fateV L m t = match keepV L m.at_, atV L t with
  | some k, some l => if k.ep = m.ep ∧ m.at_ ≤ t then (if l.st = 0 ∨ l.ep ≠ m.ep then (3, -1, 0) else if l.st = 1 then (1, l.ho, 0) else (2, -1, 0)) else (0, 0, 140)
  | _, _ => (0, 0, 140) := rfl

set_option maxHeartbeats 4000000 in
set_option maxRecDepth 100000 in
theorem fate_any (A : Option Addr) (n c : Nat) (L : List Ev) (m : Ml) (t : Int) (hn : L.length = n) (hn2 : n ≤ 140737488351232) (hc : n ≤ c) (w : World) (hE : EvsIn w A L) :
    Calls Try.prog 30 #[.slice A n c, m.v, .int .i64 t] w fun e w' => e = .returned (fateR (fateV L m t)) ∧ Below w.heap.size w w' := by
  obtain ⟨mep, mat⟩ := m
  have C1 := Lib.hid (fun (W : World) (h : EvsIn W A L) => keep_any A n c L mat hn hn2 hc W h)
  have C2 := Lib.hid (fun (W : World) (h : EvsIn W A L) => at_any A n c L t hn hn2 hc W h)
  have HF := Lib.hid (fate_eq L ⟨mep, mat⟩ t)
  show Calls _ _ #[.slice A n c, .agg #[.int .i64 mep, .int .i64 mat], .int .i64 t] _ _
  generalize fateV L ⟨mep, mat⟩ t = fv at HF
  dsimp only at HF
  generalize keepV L mat = kv at C1 HF
  generalize atV L t = av at C2 HF
  have k0 := Blk.new w #[.int .i64 mep, .int .i64 mat] 28
  have hB0 : Below w.heap.size w (w.alloc (.cells #[.int .i64 mep, .int .i64 mat] 28)) := (Below.refl _ _).alloc (Nat.le_refl _) _
  -- every way begins alike
  rcases kv with _ | ⟨kep, kat⟩ <;> rcases av with _ | ⟨st, ho, ep, si⟩
  case none.none | none.some | some.none =>
    obtain rfl : fv = (0, 0, 140) := HF.out
    dsimp only [keepR, atR, Ml.v, Ln.v, zeroM, zeroL] at C1 C2
    first
    | (rcases hq : (kep == mep) with _ | _
       all_goals (
        have hqb : (kep != mep) = !(kep == mep) := rfl
        rw [hq] at hqb
        go_enter Try.func30, Try.ntmps30
        go_wp2_with fail
        refine (C1.out _ (hE.below hB0 (Nat.le_refl _))).mono ?_
        rintro e w1 ⟨rfl, hw1⟩
        have k1 := (k0.below hw1 k0.lt).alloc (.cells #[.int .i64 kep, .int .i64 kat] 28)
        have kk := Blk.new w1 #[.int .i64 kep, .int .i64 kat] 28
        have hB1 := (hB0.trans (hw1.mono hB0.size)).alloc (hB0.trans (hw1.mono hB0.size)).size (.cells #[.int .i64 kep, .int .i64 kat] 28)
        go_wp2_with fail
        refine (C2.out _ (hE.below hB1 (Nat.le_refl _))).mono ?_
        rintro e w2 ⟨rfl, hw2⟩
        have hB2 := hB1.trans (hw2.mono hB1.size)
        have k2 := (k1.below hw2 k1.lt).alloc (.cells #[.int .i64 0, .int .i64 0, .int .i64 0, .int .i64 0] 26)
        have kk2 := (kk.below hw2 kk.lt).alloc (.cells #[.int .i64 0, .int .i64 0, .int .i64 0, .int .i64 0] 26)
        obtain ⟨m0, m1, -, -⟩ := mfacts k2
        obtain ⟨n0, n1, -, -⟩ := mfacts kk2
        go_wp2
        go_ret3
        exact ⟨rfl, hB2.alloc hB2.size _⟩))
    | (go_enter Try.func30, Try.ntmps30
       go_wp2_with fail
       refine (C1.out _ (hE.below hB0 (Nat.le_refl _))).mono ?_
       rintro e w1 ⟨rfl, hw1⟩
       have hB1 := (hB0.trans (hw1.mono hB0.size)).alloc (hB0.trans (hw1.mono hB0.size)).size (.cells #[.int .i64 0, .int .i64 0] 28)
       go_wp2_with fail
       refine (C2.out _ (hE.below hB1 (Nat.le_refl _))).mono ?_
       rintro e w2 ⟨rfl, hw2⟩
       have hB2 := hB1.trans (hw2.mono hB1.size)
       go_wp2
       go_ret3
       exact ⟨rfl, hB2.alloc hB2.size _⟩)
  case some.some =>
    dsimp only at HF
    dsimp only [keepR, atR, Ml.v, Ln.v] at C1 C2
    have bcase : ∀ x y : Int, (x = y ∧ (x == y) = true ∧ (x != y) = false) ∨ (x ≠ y ∧ (x == y) = false ∧ (x != y) = true) := fun x y => by
      by_cases h : x = y
      · exact .inl ⟨h, beq_iff_eq.2 h, by rw [bne, beq_iff_eq.2 h]; rfl⟩
      · exact .inr ⟨h, beq_eq_false_iff_ne.2 h, by rw [bne, beq_eq_false_iff_ne.2 h]; rfl⟩
    have lcase : (mat ≤ t ∧ decide (t < mat) = false) ∨ (¬ mat ≤ t ∧ decide (t < mat) = true) := by
      by_cases h : mat ≤ t
      · exact .inl ⟨h, decide_eq_false (by omega)⟩
      · exact .inr ⟨h, decide_eq_true (by omega)⟩
    rcases bcase kep mep with ⟨q1, hq, hqb⟩ | ⟨q1, hq, hqb⟩ <;> rcases lcase with ⟨q2, hlt⟩ | ⟨q2, hlt⟩ <;> rcases bcase st 0 with ⟨q3, h0, -⟩ | ⟨q3, h0, -⟩ <;> rcases bcase ep mep with ⟨q4, hp, hpb⟩ | ⟨q4, hp, hpb⟩ <;> rcases bcase st 1 with ⟨q5, h1, -⟩ | ⟨q5, h1, -⟩
    all_goals (try (exfalso; omega))
    all_goals (
      have HF2 := HF.out
      simp only [q1, q2, q3, q4, q5, ne_eq, not_true_eq_false, not_false_eq_true, true_and, and_true, and_false, false_and, or_true, true_or, or_false, false_or, if_true, if_false, false_implies, and_self, or_self, if_pos, if_neg] at HF2
      subst HF2
      clear HF bcase q1 q2 q3 q4 q5
      go_enter Try.func30, Try.ntmps30
      go_wp2_with fail
      refine (C1.out _ (hE.below hB0 (Nat.le_refl _))).mono ?_
      rintro e w1 ⟨rfl, hw1⟩
      have k1 := (k0.below hw1 k0.lt).alloc (.cells #[.int .i64 kep, .int .i64 kat] 28)
      have kk := Blk.new w1 #[.int .i64 kep, .int .i64 kat] 28
      have hB1 := (hB0.trans (hw1.mono hB0.size)).alloc (hB0.trans (hw1.mono hB0.size)).size (.cells #[.int .i64 kep, .int .i64 kat] 28)
      go_wp2_with fail
      refine (C2.out _ (hE.below hB1 (Nat.le_refl _))).mono ?_
      rintro e w2 ⟨rfl, hw2⟩
      have hB2 := hB1.trans (hw2.mono hB1.size)
      have k2 := (k1.below hw2 k1.lt).alloc (.cells #[.int .i64 st, .int .i64 ho, .int .i64 ep, .int .i64 si] 26)
      have kk2 := (kk.below hw2 kk.lt).alloc (.cells #[.int .i64 st, .int .i64 ho, .int .i64 ep, .int .i64 si] 26)
      have kl := Blk.new w2 #[.int .i64 st, .int .i64 ho, .int .i64 ep, .int .i64 si] 26
      obtain ⟨m0, m1, -, -⟩ := mfacts k2
      obtain ⟨n0, n1, -, -⟩ := mfacts kk2
      obtain ⟨c0, c1, c2, c3⟩ := line_cells (st := st) (ho := ho) (ep := ep) (si := si) kl
      replace hB2 := hB2.alloc hB2.size (.cells #[.int .i64 st, .int .i64 ho, .int .i64 ep, .int .i64 si] 26)
      have hB3 := hB2.drew
      have hmix : Try.prog.follows .mixedOrders = true := by kernel_rfl
      clear C1 C2 hw1 hw2 k1 k2 kk kk2 kl hE
      go_wp2_with fail
      first
      | (go_ret3
         exact ⟨rfl, hB2⟩)
      | (go_quiet (fail)
         go_wp2
         go_ret3
         exact ⟨rfl, drewN_below _ hB2⟩))
end Go.Proofs.Yteilkigdlkeiaaa.Lf

namespace Go.Proofs.Yteilkigdlkeiaaa.Lf
set_option linter.unusedVariables false
set_option linter.unusedSimpArgs false
open Go Go.RowKit

/-- stays lie in cells -/
def SyIn (W : World) (A : Option Addr) (L : List Sy) : Prop :=
  ∀ k (h : k < L.length), ∃ ad, A = some ad ∧ W.cell? (ad.add (k * 4)) = some (.int .i64 L[k].ho) ∧ W.cell? ⟨(ad.add (k * 4)).block, (ad.add (k * 4)).off + 1, none⟩ = some (.int .i64 L[k].ep) ∧ W.cell? ⟨(ad.add (k * 4)).block, (ad.add (k * 4)).off + 2, none⟩ = some (.int .i64 L[k].fr) ∧ W.cell? ⟨(ad.add (k * 4)).block, (ad.add (k * 4)).off + 3, none⟩ = some (.int .i64 L[k].tt)

theorem SyIn.below {m : Nat} {W W' : World} {A : Option Addr} {L : List Sy} (h : SyIn W A L) (hb : Below m W W') (hm : W.heap.size ≤ m) : SyIn W' A L := by
  intro k hk
  obtain ⟨ad, e, h0, h1, h2, h3⟩ := h k hk
  refine ⟨ad, e, ?_, ?_, ?_, ?_⟩
  · exact (hb.cell (Nat.lt_of_lt_of_le (block_lt_of_cell h0) hm)).trans h0
  · exact (hb.cell (Nat.lt_of_lt_of_le (block_lt_of_cell h1) hm)).trans h1
  · exact (hb.cell (Nat.lt_of_lt_of_le (block_lt_of_cell h2) hm)).trans h2
  · exact (hb.cell (Nat.lt_of_lt_of_le (block_lt_of_cell h3) hm)).trans h3

/-- a row of stays, as cells -/
theorem syIn_row {W : World} {base : Nat} {v : Value} {L : List Sy} (h : stayRow W base v L) : ∃ A c, v = .slice A L.length c ∧ SyIn W A L ∧ L.length ≤ c := by
  rcases h.2 with ⟨rfl, h0⟩ | ⟨g, cap, cur, rfl, hb, hg, hnc, _⟩
  · have : L = [] := List.eq_nil_of_length_eq_zero h0
    subst this
    exact ⟨none, 0, rfl, fun k hk => absurd hk (by simp), Nat.le_refl _⟩
  · refine ⟨some ⟨g, 0, none⟩, cap, rfl, fun k hk => ⟨_, rfl, ?_⟩, hnc⟩
    have hc : ∀ j (hj : j < 4), W.cell? ⟨g, k * 4 + j, none⟩ = (Sy.vs L[k])[j]? := by
      intro j hj
      have hrow : W.ownsRow base 62 4 (.slice (some ⟨g, 0, none⟩) L.length cap) L.length (flatS L) := h
      rw [hrow.cellAt (k * 4 + j) (by omega)]
      have hL : L = L.take k ++ (L[k] :: L.drop (k + 1)) := by rw [← List.drop_eq_getElem_cons hk, List.take_append_drop]
      have hf : flatS L = flatS (L.take k) ++ (L[k].vs ++ flatS (L.drop (k + 1))) := (congrArg flatS hL).trans (by unfold flatS; rw [List.flatMap_append, List.flatMap_cons])
      rw [hf, List.getElem?_append_right (by rw [flatS_len, List.length_take]; omega), flatS_len, List.length_take, show min k L.length = k by omega, show k * 4 + j - k * 4 = j by omega,
        List.getElem?_append_left (by simp [Sy.vs]; omega)]
    have e : (⟨g, 0, none⟩ : Addr).add (k * 4) = ⟨g, k * 4, none⟩ := by rw [Addr.add_lit, Nat.zero_add]
    rw [e]
    exact ⟨hc 0 (by omega), hc 1 (by omega), hc 2 (by omega), hc 3 (by omega)⟩

theorem take_eq {L M : List Sy} {k : Nat} (h1 : k < L.length) (h2 : k < M.length) (ht : L.take k = M.take k) (he : L[k] = M[k]) : L.take (k + 1) = M.take (k + 1) := by
  rw [List.take_add_one, List.take_add_one, ht, List.getElem?_eq_getElem h1, List.getElem?_eq_getElem h2, he]

set_option maxHeartbeats 2000000 in
theorem same_any (A B : Option Addr) (n m c d : Nat) (L M : List Sy) (hn : L.length = n) (hm : M.length = m) (hn2 : n ≤ 140737488351232) (w : World) (hL : SyIn w A L) (hM : SyIn w B M) :
    Calls Try.prog 21 #[.slice A n c, .slice B m d] w fun e w' => e = .returned (.bool (L == M)) ∧ Below w.heap.size w w' := by
  have HL := Lib.hid hL
  have HM := Lib.hid hM
  clear hL hM
  by_cases hnm : n = m
  · subst hnm
    go_enter Try.func21, Try.ntmps21
    go_wp2_with fail
    go_loopw [5] (fun i wr => ∃ k : Nat, i = .int .i64 k ∧ k ≤ n ∧ L.take k = M.take k ∧ Below w.heap.size w wr) (fun i _ => n - (intOf i).toNat)
    case atStart => exact ⟨0, rfl, by omega, rfl, Below.refl _ _⟩
    case round =>
      obtain ⟨k, rfl, hk, hT, hB⟩ := hrel
      have HT := Lib.hid hT
      have HB := Lib.hid hB
      clear hT
      by_cases hlt : k < n
      · have h1 : k < L.length := by omega
        have h2 : k < M.length := by omega
        obtain ⟨ad, rfl, a0, a1, a2, a3⟩ := HL.out k h1
        obtain ⟨bd, rfl, b0, b1, b2, b3⟩ := HM.out k h2
        replace a0 := (hB.cell (block_lt_of_cell a0)).trans a0
        replace a1 := (hB.cell (block_lt_of_cell a1)).trans a1
        replace a2 := (hB.cell (block_lt_of_cell a2)).trans a2
        replace a3 := (hB.cell (block_lt_of_cell a3)).trans a3
        replace b0 := (hB.cell (block_lt_of_cell b0)).trans b0
        replace b1 := (hB.cell (block_lt_of_cell b1)).trans b1
        replace b2 := (hB.cell (block_lt_of_cell b2)).trans b2
        replace b3 := (hB.cell (block_lt_of_cell b3)).trans b3
        obtain ⟨x, hx⟩ : ∃ x, L[k] = x := ⟨_, rfl⟩
        obtain ⟨y, hy⟩ : ∃ y, M[k] = y := ⟨_, rfl⟩
        have HX := Lib.hid hx
        have HY := Lib.hid hy
        rw [hx] at a0 a1 a2 a3
        rw [hy] at b0 b1 b2 b3
        clear hx hy hB
        obtain ⟨p, q, r, s⟩ := x
        obtain ⟨p', q', r', s'⟩ := y
        by_cases e1 : p = p'
        · subst e1
          by_cases e2 : q = q'
          · subst e2
            by_cases e3 : r = r'
            · subst e3
              by_cases e4 : s = s'
              · subst e4
                have hmix : Try.prog.follows .mixedOrders = true := by kernel_rfl
                go_wp2_with fail
                go_region
                all_goals (
                  go_wp2
                  go_roundw
                  case rel => exact ⟨k + 1, by go_num, by omega, take_eq h1 h2 HT.out (by rw [HX.out, HY.out]), HB.out.drew⟩
                  case measure => simp [intOf]; omega)
              · have hmix : Try.prog.follows .mixedOrders = true := by kernel_rfl
                go_wp2_with fail
                go_region
                all_goals (
                  go_wp2
                  go_ret
                  refine ⟨ret_bool ?_, HB.out.drew⟩
                  symm
                  rw [beq_eq_false_iff_ne]
                  intro e
                  subst e
                  rw [HX.out] at HY
                  have := HY.out
                  simp only [Sy.mk.injEq] at this
                  omega)
            · have hmix : Try.prog.follows .mixedOrders = true := by kernel_rfl
              go_wp2_with fail
              go_region
              all_goals (
                go_wp2
                go_ret
                refine ⟨ret_bool ?_, HB.out.drew⟩
                symm
                rw [beq_eq_false_iff_ne]
                intro e
                subst e
                rw [HX.out] at HY
                have := HY.out
                simp only [Sy.mk.injEq] at this
                omega)
          · have hmix : Try.prog.follows .mixedOrders = true := by kernel_rfl
            go_wp2_with fail
            go_region
            all_goals (
              go_wp2
              go_ret
              refine ⟨ret_bool ?_, HB.out.drew⟩
              symm
              rw [beq_eq_false_iff_ne]
              intro e
              subst e
              rw [HX.out] at HY
              have := HY.out
              simp only [Sy.mk.injEq] at this
              omega)
        · have hmix : Try.prog.follows .mixedOrders = true := by kernel_rfl
          go_wp2_with fail
          go_region
          all_goals (
            go_wp2
            go_ret
            refine ⟨ret_bool ?_, HB.out.drew⟩
            symm
            rw [beq_eq_false_iff_ne]
            intro e
            subst e
            rw [HX.out] at HY
            have := HY.out
            simp only [Sy.mk.injEq] at this
            omega)
      · obtain rfl : k = n := by omega
        go_wp2
        go_ret
        refine ⟨ret_bool ?_, HB.out⟩
        symm
        rw [beq_iff_eq]
        have := HT.out
        rw [List.take_of_length_le (by omega), List.take_of_length_le (by omega)] at this
        exact this
  · have hb : (L == M) = false := by
      rw [beq_eq_false_iff_ne]
      intro e; rw [e, hm] at hn; omega
    rw [hb]
    have hne : ((n : Int) != (m : Int)) = true := by rw [bne_iff_ne]; omega
    go_enter Try.func21, Try.ntmps21
    go_wp2
    go_ret
    exact ⟨rfl, Below.refl _ _⟩

theorem example_any (w : World) :
    Calls Try.prog 38 #[] w fun e w' => e = .returned (.slice (some ⟨w.heap.size, 0, none⟩) 6 6) ∧ w' = w.alloc (.cells #[.int .i64 1, .int .i64 100, .int .i64 5, .int .i64 3, .int .i64 200, .int .i64 (-1), .int .i64 4, .int .i64 300, .int .i64 (-1), .int .i64 5, .int .i64 400, .int .i64 (-1), .int .i64 7, .int .i64 2592400, .int .i64 (-1), .int .i64 1, .int .i64 2592400, .int .i64 6] 54) := by
  go_enter Try.func38, Try.ntmps38
  go_wp2
  go_ret
  exact ⟨rfl, rfl⟩
end Go.Proofs.Yteilkigdlkeiaaa.Lf
