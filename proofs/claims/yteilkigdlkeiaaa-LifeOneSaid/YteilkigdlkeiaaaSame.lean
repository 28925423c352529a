/- SameStays and example, by their contracts. -/
import Derived.Test.YteilkigdlkeiaaaStays
import Derived.Test.YteilkigdlkeiaaaLines
import Derived.BigQuiet
namespace Go.Proofs.Yteilkigdlkeiaaa.Lf
set_option linter.unusedVariables false
set_option linter.unusedSimpArgs false
open Go Go.RowKit

/-- stays lie in cells -/
def SyIn (W : World) (A : Option Addr) (L : List Sy) : Prop :=
  ∀ k (h : k < L.length), ∃ ad, A = some ad ∧ W.cell? (ad.add (k * 4)) = some (.int .i64 L[k].ho) ∧ W.cell? ⟨(ad.add (k * 4)).block, (ad.add (k * 4)).off + 1, none⟩ = some (.int .i64 L[k].ep) ∧ W.cell? ⟨(ad.add (k * 4)).block, (ad.add (k * 4)).off + 2, none⟩ = some (.int .i64 L[k].fr) ∧ W.cell? ⟨(ad.add (k * 4)).block, (ad.add (k * 4)).off + 3, none⟩ = some (.int .i64 L[k].tt)

theorem SyIn.below {m : Nat} {W W' : World} {A : Option Addr} {L : List Sy} (h : SyIn W A L) (hb : Below m W W') (hm : W.heap.size ≤ m) : SyIn W' A L := by
  intro k hk
  obtain ⟨ad, e, h0, h1, h2, h3⟩ := h k hk
  refine ⟨ad, e, ?_, ?_, ?_, ?_⟩
  · exact (hb.cell (Nat.lt_of_lt_of_le (block_lt_of_cell h0) hm)).trans h0
  · exact (hb.cell (Nat.lt_of_lt_of_le (block_lt_of_cell h1) hm)).trans h1
  · exact (hb.cell (Nat.lt_of_lt_of_le (block_lt_of_cell h2) hm)).trans h2
  · exact (hb.cell (Nat.lt_of_lt_of_le (block_lt_of_cell h3) hm)).trans h3

/-- a row of stays, as cells -/
theorem syIn_row {W : World} {base : Nat} {v : Value} {L : List Sy} (h : stayRow W base v L) : ∃ A c, v = .slice A L.length c ∧ SyIn W A L ∧ L.length ≤ c := by
  rcases h.2 with ⟨rfl, h0⟩ | ⟨g, cap, cur, rfl, hb, hg, hnc, _⟩
  · have : L = [] := List.eq_nil_of_length_eq_zero h0
    subst this
    exact ⟨none, 0, rfl, fun k hk => absurd hk (by simp), Nat.le_refl _⟩
  · refine ⟨some ⟨g, 0, none⟩, cap, rfl, fun k hk => ⟨_, rfl, ?_⟩, hnc⟩
    have hc : ∀ j (hj : j < 4), W.cell? ⟨g, k * 4 + j, none⟩ = (Sy.vs L[k])[j]? := by
      intro j hj
      have hrow : W.ownsRow base 62 4 (.slice (some ⟨g, 0, none⟩) L.length cap) L.length (flatS L) := h
      rw [hrow.cellAt (k * 4 + j) (by omega)]
      have hL : L = L.take k ++ (L[k] :: L.drop (k + 1)) := by rw [← List.drop_eq_getElem_cons hk, List.take_append_drop]
      have hf : flatS L = flatS (L.take k) ++ (L[k].vs ++ flatS (L.drop (k + 1))) := (congrArg flatS hL).trans (by unfold flatS; rw [List.flatMap_append, List.flatMap_cons])
      rw [hf, List.getElem?_append_right (by rw [flatS_len, List.length_take]; omega), flatS_len, List.length_take, show min k L.length = k by omega, show k * 4 + j - k * 4 = j by omega,
        List.getElem?_append_left (by simp [Sy.vs]; omega)]
    have e : (⟨g, 0, none⟩ : Addr).add (k * 4) = ⟨g, k * 4, none⟩ := by rw [Addr.add_lit, Nat.zero_add]
    rw [e]
    exact ⟨hc 0 (by omega), hc 1 (by omega), hc 2 (by omega), hc 3 (by omega)⟩

theorem take_eq {L M : List Sy} {k : Nat} (h1 : k < L.length) (h2 : k < M.length) (ht : L.take k = M.take k) (he : L[k] = M[k]) : L.take (k + 1) = M.take (k + 1) := by
  rw [List.take_add_one, List.take_add_one, ht, List.getElem?_eq_getElem h1, List.getElem?_eq_getElem h2, he]

set_option maxHeartbeats 2000000 in
theorem same_any (A B : Option Addr) (n m c d : Nat) (L M : List Sy) (hn : L.length = n) (hm : M.length = m) (hn2 : n ≤ 140737488351232) (w : World) (hL : SyIn w A L) (hM : SyIn w B M) :
    Calls Try.prog 21 #[.slice A n c, .slice B m d] w fun e w' => e = .returned (.bool (L == M)) ∧ Below w.heap.size w w' := by
  have HL := Lib.hid hL
  have HM := Lib.hid hM
  clear hL hM
  by_cases hnm : n = m
  · subst hnm
    go_enter Try.func21, Try.ntmps21
    go_wp2_with fail
    go_loopw [5] (fun i wr => ∃ k : Nat, i = .int .i64 k ∧ k ≤ n ∧ L.take k = M.take k ∧ Below w.heap.size w wr) (fun i _ => n - (intOf i).toNat)
    case atStart => exact ⟨0, rfl, by omega, rfl, Below.refl _ _⟩
    case round =>
      obtain ⟨k, rfl, hk, hT, hB⟩ := hrel
      have HT := Lib.hid hT
      have HB := Lib.hid hB
      clear hT
      by_cases hlt : k < n
      · have h1 : k < L.length := by omega
        have h2 : k < M.length := by omega
        obtain ⟨ad, rfl, a0, a1, a2, a3⟩ := HL.out k h1
        obtain ⟨bd, rfl, b0, b1, b2, b3⟩ := HM.out k h2
        replace a0 := (hB.cell (block_lt_of_cell a0)).trans a0
        replace a1 := (hB.cell (block_lt_of_cell a1)).trans a1
        replace a2 := (hB.cell (block_lt_of_cell a2)).trans a2
        replace a3 := (hB.cell (block_lt_of_cell a3)).trans a3
        replace b0 := (hB.cell (block_lt_of_cell b0)).trans b0
        replace b1 := (hB.cell (block_lt_of_cell b1)).trans b1
        replace b2 := (hB.cell (block_lt_of_cell b2)).trans b2
        replace b3 := (hB.cell (block_lt_of_cell b3)).trans b3
        obtain ⟨x, hx⟩ : ∃ x, L[k] = x := ⟨_, rfl⟩
        obtain ⟨y, hy⟩ : ∃ y, M[k] = y := ⟨_, rfl⟩
        have HX := Lib.hid hx
        have HY := Lib.hid hy
        rw [hx] at a0 a1 a2 a3
        rw [hy] at b0 b1 b2 b3
        clear hx hy hB
        obtain ⟨p, q, r, s⟩ := x
        obtain ⟨p', q', r', s'⟩ := y
        by_cases e1 : p = p'
        · subst e1
          by_cases e2 : q = q'
          · subst e2
            by_cases e3 : r = r'
            · subst e3
              by_cases e4 : s = s'
              · subst e4
                have hmix : Try.prog.follows .mixedOrders = true := by kernel_rfl
                go_wp2_with fail
                go_region
                all_goals (
                  go_wp2
                  go_roundw
                  case rel => exact ⟨k + 1, by go_num, by omega, take_eq h1 h2 HT.out (by rw [HX.out, HY.out]), HB.out.drew⟩
                  case measure => simp [intOf]; omega)
              · have hmix : Try.prog.follows .mixedOrders = true := by kernel_rfl
                go_wp2_with fail
                go_region
                all_goals (
                  go_wp2
                  go_ret
                  refine ⟨ret_bool ?_, HB.out.drew⟩
                  symm
                  rw [beq_eq_false_iff_ne]
                  intro e
                  subst e
                  rw [HX.out] at HY
                  have := HY.out
                  simp only [Sy.mk.injEq] at this
                  omega)
            · have hmix : Try.prog.follows .mixedOrders = true := by kernel_rfl
              go_wp2_with fail
              go_region
              all_goals (
                go_wp2
                go_ret
                refine ⟨ret_bool ?_, HB.out.drew⟩
                symm
                rw [beq_eq_false_iff_ne]
                intro e
                subst e
                rw [HX.out] at HY
                have := HY.out
                simp only [Sy.mk.injEq] at this
                omega)
          · have hmix : Try.prog.follows .mixedOrders = true := by kernel_rfl
            go_wp2_with fail
            go_region
            all_goals (
              go_wp2
              go_ret
              refine ⟨ret_bool ?_, HB.out.drew⟩
              symm
              rw [beq_eq_false_iff_ne]
              intro e
              subst e
              rw [HX.out] at HY
              have := HY.out
              simp only [Sy.mk.injEq] at this
              omega)
        · have hmix : Try.prog.follows .mixedOrders = true := by kernel_rfl
          go_wp2_with fail
          go_region
          all_goals (
            go_wp2
            go_ret
            refine ⟨ret_bool ?_, HB.out.drew⟩
            symm
            rw [beq_eq_false_iff_ne]
            intro e
            subst e
            rw [HX.out] at HY
            have := HY.out
            simp only [Sy.mk.injEq] at this
            omega)
      · obtain rfl : k = n := by omega
        go_wp2
        go_ret
        refine ⟨ret_bool ?_, HB.out⟩
        symm
        rw [beq_iff_eq]
        have := HT.out
        rw [List.take_of_length_le (by omega), List.take_of_length_le (by omega)] at this
        exact this
  · have hb : (L == M) = false := by
      rw [beq_eq_false_iff_ne]
      intro e; rw [e, hm] at hn; omega
    rw [hb]
    have hne : ((n : Int) != (m : Int)) = true := by rw [bne_iff_ne]; omega
    go_enter Try.func21, Try.ntmps21
    go_wp2
    go_ret
    exact ⟨rfl, Below.refl _ _⟩

theorem example_any (w : World) :
    Calls Try.prog 38 #[] w fun e w' => e = .returned (.slice (some ⟨w.heap.size, 0, none⟩) 6 6) ∧ w' = w.alloc (.cells #[.int .i64 1, .int .i64 100, .int .i64 5, .int .i64 3, .int .i64 200, .int .i64 (-1), .int .i64 4, .int .i64 300, .int .i64 (-1), .int .i64 5, .int .i64 400, .int .i64 (-1), .int .i64 7, .int .i64 2592400, .int .i64 (-1), .int .i64 1, .int .i64 2592400, .int .i64 6] 54) := by
  go_enter Try.func38, Try.ntmps38
  go_wp2
  go_ret
  exact ⟨rfl, rfl⟩
end Go.Proofs.Yteilkigdlkeiaaa.Lf
