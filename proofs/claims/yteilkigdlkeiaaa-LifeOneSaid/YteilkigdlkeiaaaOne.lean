/- LifeOne: the walk. -/
import Derived.Test.YteilkigdlkeiaaaFate
import Derived.Test.YteilkigdlkeiaaaMade
import Derived.Test.YteilkigdlkeiaaaTime
namespace Go.Proofs.Yteilkigdlkeiaaa.Lf
set_option linter.unusedVariables false
set_option linter.unusedSimpArgs false
open Go Go.RowKit

/-- a row of events, as cells -/
theorem evIn_row {W : World} {base : Nat} {v : Value} {L : List Ev} (h : W.ownsRow base 54 3 v L.length (flatE L)) : ∃ A c, v = .slice A L.length c ∧ EvsIn W A L ∧ L.length ≤ c := by
  rcases h.2 with ⟨rfl, h0⟩ | ⟨g, cap, cur, rfl, hb, hg, hnc, _⟩
  · have : L = [] := List.eq_nil_of_length_eq_zero h0
    subst this
    exact ⟨none, 0, rfl, fun k hk => absurd hk (by simp), Nat.le_refl _⟩
  · refine ⟨some ⟨g, 0, none⟩, cap, rfl, fun k hk => ⟨_, rfl, ?_⟩, hnc⟩
    have hc : ∀ j (hj : j < 3), W.cell? ⟨g, k * 3 + j, none⟩ = (Ev.vs L[k])[j]? := by
      intro j hj
      rw [h.cellAt (k * 3 + j) (by omega)]
      have hL : L = L.take k ++ (L[k] :: L.drop (k + 1)) := by rw [← List.drop_eq_getElem_cons hk, List.take_append_drop]
      have hf : flatE L = flatE (L.take k) ++ (L[k].vs ++ flatE (L.drop (k + 1))) := (congrArg flatE hL).trans (by unfold flatE; rw [List.flatMap_append, List.flatMap_cons])
      rw [hf, List.getElem?_append_right (by rw [flatE_len, List.length_take]; omega), flatE_len, List.length_take, show min k L.length = k by omega, show k * 3 + j - k * 3 = j by omega,
        List.getElem?_append_left (by simp [Ev.vs]; omega)]
    have e : (⟨g, 0, none⟩ : Addr).add (k * 3) = ⟨g, k * 3, none⟩ := by rw [Addr.add_lit, Nat.zero_add]
    rw [e]
    exact ⟨hc 0 (by omega), hc 1 (by omega), hc 2 (by omega)⟩

theorem next_valid {l : Ln} {e : Ev} {n : Ln} (h : step l e = some n) : validB n = true := by
  obtain ⟨h1, h2, h3, rfl⟩ := step_some h
  obtain ⟨st, ho, ep, si⟩ := l
  obtain ⟨k, a, h'⟩ := e
  have f1 := valid_facts h1
  have f2 := formed_facts h2
  have hk : k = 1 ∨ k = 2 ∨ k = 3 ∨ k = 4 ∨ k = 5 ∨ k = 6 ∨ k = 7 := by omega
  have hh := f2.2.2.2.2.2.2
  have hv := h1
  simp only [validB, inB, Bool.and_eq_true, decide_eq_true_eq] at hv
  rcases hk with rfl | rfl | rfl | rfl | rfl | rfl | rfl
  all_goals (
    simp only [mayB, Bool.and_eq_true, decide_eq_true_eq, beq_iff_eq, Bool.or_eq_true, if_true, reduceIte, Int.reduceEq, if_false, bne_iff_ne] at h3
    simp only [namedB, Int.reduceBEq, Bool.or_true, Bool.true_or, Bool.or_false, Bool.false_or, Bool.or_self, forall_const, false_implies, implies_true] at hh
    simp only [validB, nextL, namedB, inB, Bool.and_eq_true, decide_eq_true_eq, Int.reduceBEq, Bool.or_true, Bool.true_or, Bool.or_false, Bool.or_self, if_true, reduceIte, Int.reduceEq, if_false, Bool.false_eq_true, beq_iff_eq]
    obtain ⟨⟨⟨v1, v2⟩, v3⟩, v4⟩ := hv
    have v4' : st ≠ 0 → (0 ≤ ho ∧ ho ≤ 63) ∧ 1 ≤ ep := by
      intro h0
      rw [if_neg h0] at v4
      simpa using v4
    try omega)
  exact ⟨⟨⟨by omega, by omega⟩, by omega⟩, trivial⟩

theorem line_valid : ∀ (es : List Ev) (l : Ln), validB l = true → validB (lineFrom l es) = true
  | [], l, h => h
  | e :: es, l, h => by
    simp only [lineFrom]
    split
    · exact h
    · rename_i n hs
      exact line_valid es n (next_valid hs)

theorem ok_take : ∀ (es : List Ev) (l : Ln) (k : Nat), okFrom l es = true → okFrom l (es.take k) = true
  | [], l, k, h => by simp [okFrom]
  | e :: es, l, 0, h => by simp [okFrom]
  | e :: es, l, k + 1, h => by
    simp only [okFrom, List.take_succ_cons] at h ⊢
    split at h
    · cases h
    · exact ok_take es _ k h
theorem life_take {L : List Ev} (h : lifeB L = true) (k : Nat) : lifeB (L.take k) = true := by
  simp only [lifeB, Bool.and_eq_true, decide_eq_true_eq] at h ⊢
  exact ⟨by rw [List.length_take]; omega, ok_take L firstL k h.2⟩

/-- which times have the same events before them -/
theorem kAt_same {L : List Ev} (hp : L.Pairwise (fun x y => x.a ≤ y.a)) {k : Nat} (hk : k ≤ L.length) {t : Int} (h1 : ∀ (h : 0 < k), (L[k - 1]'(by omega)).a ≤ t) (h2 : ∀ (h : k < L.length), t < L[k].a) : kAt L t = k := by
  have hle := kAt_le L t
  by_cases e : kAt L t < k
  · have := h1 (by omega)
    have h3 := (kAt_spec L t hp (k - 1) (by omega)).2 this
    omega
  · by_cases e2 : k < kAt L t
    · have h3 := (kAt_spec L t hp k (by omega)).1 e2
      have := h2 (by omega)
      omega
    · omega

theorem at_life {L : List Ev} (h : lifeB L = true) {t : Int} (h0 : 0 ≤ t) (h1 : t ≤ 10000000) : atV L t = some (lineFrom firstL (L.take (kAt L t))) := by
  have hb : inB t 0 10000000 = true := by simp [inB, h0, h1]
  rw [atV, h, hb]
  simp only [Bool.and_self, if_true]
  rw [runV_life (life_take h _)]

theorem ok_times : ∀ (es : List Ev) (l : Ln), okFrom l es = true → ∀ x ∈ es, 0 ≤ x.a ∧ x.a ≤ 10000000
  | [], l, h, x, hx => by simp at hx
  | e :: es, l, h, x, hx => by
    simp only [okFrom] at h
    split at h
    · cases h
    · rename_i n hs
      obtain ⟨h1, h2, h3, h4⟩ := step_some hs
      rcases List.mem_cons.1 hx with rfl | hx
      · have := formed_facts (k := x.k) (a := x.a) (h := x.h) h2
        exact ⟨this.2.2.1, this.2.2.2.1⟩
      · exact ok_times es n h x hx
theorem rpick_law (c n : Int) (w : World) (hc : I64 c) (hn : 0 < n) :
    Calls Try.prog 29 #[.int .i64 c, .int .i64 n] w fun e w' => ∃ q : Int, e = .returned (.int .i64 q) ∧ 0 ≤ q ∧ q < n ∧ w = w' :=
  (pick_any c n w hc hn).mono fun e w' ⟨h1, h2⟩ => ⟨pk c % n, h1, Int.emod_nonneg _ (by omega), Int.emod_lt_of_pos _ hn, h2⟩

set_option maxHeartbeats 8000000 in
set_option maxRecDepth 100000 in
theorem one_walk (hs : ∀ w, Calls Try.prog 13 #[] w fun e w' => e = .returned (.bool true) ∧ Below w.heap.size w w')
    (A : Option Addr) (n c : Nat) (X : List Ev) (t u : Int) (hn : X.length = n) (hn2 : n ≤ 140737488351232) (hX : ∀ x ∈ X, I64 x.k ∧ I64 x.a ∧ I64 x.h) (ht : I64 t) (hu : I64 u) (w : World) (hE : EvsIn w A X) :
    Calls Try.prog 4 #[.slice A n c, .int .i64 t, .int .i64 u] w fun e w' => e = .returned (.bool true) ∧ Below w.heap.size w w' := by
  have CS := Lib.hid hs
  have CM := Lib.hid (fun (W : World) (h : EvsIn W A X) => made_any A n c X hn hn2 hX W h)
  go_enter Try.func4, Try.ntmps4
  go_wp2_with fail
  refine (CS.out _).mono ?_
  rintro e w1 ⟨rfl, hw1⟩
  go_wp2_with fail
  refine (CM.out _ (hE.below hw1 (Nat.le_refl _))).mono ?_
  rintro e w2 ⟨v, L, rfl, hrow, hok, h16, hw2⟩
  obtain ⟨B, c', rfl, hL, hc'⟩ := evIn_row hrow
  have hB2 := hw1.trans (hw2.mono hw1.size)
  clear hrow hw2 hw1 hs hX hE CS CM
  have hlife : lifeB L = true := by simp only [lifeB, Bool.and_eq_true, decide_eq_true_eq]; exact ⟨by omega, hok⟩
  have hpw := life_pairwise hlife
  generalize hm : L.length = m at h16 hc' ⊢
  have CT := Lib.hid (fun W (h : EvsIn W B L) => time_any B m c' L t ht hm (by omega) W h)
  go_wp2_with fail
  refine (CT.out _ hL).mono ?_
  rintro e w3 ⟨at_, rfl, ha0, ha1, rfl⟩
  clear CT
  have HK := Lib.hid (kAt_spec L at_ hpw)
  have hkle := kAt_le L at_
  rw [hm] at hkle
  obtain ⟨K, hK⟩ : ∃ K, kAt L at_ = K := ⟨_, rfl⟩
  rw [hK] at HK hkle
  have HL := Lib.hid hL
  obtain ⟨ln, hln⟩ : ∃ ln, lineFrom firstL (L.take K) = ln := ⟨_, rfl⟩
  have hval : validB ln = true := by rw [← hln]; exact line_valid _ _ (by decide)
  have hsame : ∀ s : Int, 0 ≤ s → s ≤ 10000000 → kAt L s = K → atV L s = some ln := fun s h0 h1 hk => by rw [at_life hlife h0 h1, hk, hln]
  have hrunK : runV (L.take K) = (ln, (K : Int), 0) := by rw [runV_life (life_take hlife K), hln, List.length_take, hm, show min K m = K by omega]
  have hfix : ∀ s : Int, (∀ (h : 0 < K), (L[K - 1]'(by omega)).a ≤ s) → (∀ (h : K < L.length), s < L[K].a) → kAt L s = K := fun s h1 h2 => kAt_same hpw (by omega) h1 h2
  have hlow : ∀ (h : 0 < K), (L[K - 1]'(by omega)).a ≤ at_ := fun h => (kAt_spec L at_ hpw (K - 1) (by omega)).1 (by omega)
  have hhigh : ∀ (h : K < L.length), at_ < L[K].a := fun h => by
    have := (kAt_spec L at_ hpw K h)
    omega
  have hlow0 : ∀ (h : 0 < K), 0 ≤ (L[K - 1]'(by omega)).a := fun h => ok_times L firstL hok (L[K - 1]'(by omega)) (List.getElem_mem _) |>.1
  have hhighM : ∀ (h : K < L.length), L[K].a ≤ 10000000 := fun h => ok_times L firstL hok L[K] (List.getElem_mem _) |>.2
  obtain ⟨st, ho, ep, si⟩ := ln
  have CA := Lib.hid (fun (s : Int) (h0 : 0 ≤ s) (h1 : s ≤ 10000000) (hk : kAt L s = K) (W : World) (h : EvsIn W B L) => (show Calls Try.prog 25 #[.slice B m c', .int .i64 s] W fun e w' => e = .returned (.tuple #[.agg #[.int .i64 st, .int .i64 ho, .int .i64 ep, .int .i64 si], .int .i64 0]) ∧ Below W.heap.size W w' from by
    have := atGet_any B m c' L s hm (by omega) hc' W h
    rw [hsame s h0 h1 hk] at this
    exact this))
  have CR := Lib.hid (fun (W : World) (h : EvsIn W B L) => (show Calls Try.prog 17 #[.slice B K c'] W fun e w' => e = .returned (.tuple #[.agg #[.int .i64 st, .int .i64 ho, .int .i64 ep, .int .i64 si], .int .i64 K, .int .i64 0]) ∧ Below W.heap.size W w' from by
    have := run_any B K c' (L.take K) (by rw [List.length_take]; omega) (by omega) (by omega) W (h.take K)
    rw [hrunK] at this
    exact this))
  have CV := Lib.hid (fun W => (show Calls Try.prog 22 #[.agg #[.int .i64 st, .int .i64 ho, .int .i64 ep, .int .i64 si]] W fun e w' => e = .returned (.bool true) ∧ Below W.heap.size W w' from by have := valid_any ⟨st, ho, ep, si⟩ W; rw [hval] at this; exact this))
  have CP := Lib.hid (fun (n : Int) (hn : 0 < n) (W : World) => rpick_law u n W hu hn)
  have HFX := Lib.hid hfix
  have HLO := Lib.hid hlow
  have HHI := Lib.hid hhigh
  have HLO0 := Lib.hid hlow0
  have HHIM := Lib.hid hhighM
  have HKA := Lib.hid hK
  have HB2 := Lib.hid hB2
  have hKc : K ≤ c' := by omega
  try clear hsame
  try clear hrunK
  try clear hfix
  try clear hlow
  try clear hhigh
  try clear hlow0
  try clear hhighM
  try clear hval
  try clear hln
  try clear hpw
  try clear hlife
  try clear hok
  try clear hL
  try clear hB2
  go_wp2_with fail
  go_loopw [9] (fun i wr => ∃ k : Nat, i = .int .i64 k ∧ k ≤ K ∧ wr = w2) (fun i _ => m - (intOf i).toNat)
  case atStart => exact ⟨0, rfl, by omega, rfl⟩
  case round =>
    obtain ⟨k, rfl, hk, rfl⟩ := hrel
    by_cases hlt : k < m
    · obtain ⟨ad, hB, d0, d1, d2⟩ := HL.out k (by omega)
      have hsp := HK.out k (by omega)
      by_cases hkk : k < K
      · generalize (L[k]'(by omega)).a = a at d1 hsp
        subst hB
        have hle : decide (a ≤ at_) = true := decide_eq_true (hsp.1 hkk)
        clear hsp d0 d2
        go_wp2
        go_roundw
        case rel => exact ⟨k + 1, by go_num, by omega, trivial⟩
        case measure => simp [intOf]; omega
      · obtain rfl : k = K := by omega
        have hab : decide ((L[k]'(by omega)).a ≤ at_) = false := decide_eq_false (fun h => hkk (hsp.2 h))
        obtain ⟨b, hb⟩ : ∃ b, (L[k]'(by omega)).a = b := ⟨_, rfl⟩
        rw [hb] at d1 hab
        have hib : at_ < b := by rw [← hb]; exact HHI.out (by omega)
        have hbM : b ≤ 10000000 := by rw [← hb]; exact HHIM.out (by omega)
        have HBB := Lib.hid hb
        clear hsp d0 d2 hb
        subst hB
        rcases Nat.eq_zero_or_pos k with hz | hpos
        ·
          subst hz
          rw [Nat.zero_mul, Addr.add_zero'] at d1
          go_wp2_with fail
          refine (CA.out at_ ha0 ha1 hK _ HL.out).mono ?_
          rintro e w4 ⟨rfl, hw4⟩
          have kb4 := Blk.new w4 #[.int .i64 st, .int .i64 ho, .int .i64 ep, .int .i64 si] 26
          have hB4 := HB2.out.trans (hw4.mono HB2.out.size)
          have hA5 := hw4.alloc hw4.size (.cells #[.int .i64 st, .int .i64 ho, .int .i64 ep, .int .i64 si] 26)
          go_upto_region 9 with fail
          generalize w4.alloc (.cells #[.int .i64 st, .int .i64 ho, .int .i64 ep, .int .i64 si] 26) = W5 at kb4 hA5 ⊢
          generalize w4.heap.size = b4 at kb4 ⊢
          go_wp2_with fail
          refine (CR.out _ (HL.out.below hA5 (Nat.le_refl _))).mono ?_
          rintro e w6 ⟨rfl, hw6⟩
          go_upto_region 10 with fail
          have kc4 := (kb4.below hw6 kb4.lt).alloc (.cells #[.int .i64 st, .int .i64 ho, .int .i64 ep, .int .i64 si] 26)
          have kc6 := Blk.new w6 #[.int .i64 st, .int .i64 ho, .int .i64 ep, .int .i64 si] 26
          have hA6 := hA5.trans (hw6.mono hA5.size)
          have hA7 := hA6.alloc hA6.size (.cells #[.int .i64 st, .int .i64 ho, .int .i64 ep, .int .i64 si] 26)
          generalize w6.alloc (.cells #[.int .i64 st, .int .i64 ho, .int .i64 ep, .int .i64 si] 26) = W7 at kc4 kc6 hA7 ⊢
          generalize w6.heap.size = b6 at kc6 ⊢
          clear hw6 hA6 hA5 kb4
          obtain ⟨p0, p1, p2, p3⟩ := line_cells (st := st) (ho := ho) (ep := ep) (si := si) kc4
          obtain ⟨r0, r1, r2, r3⟩ := line_cells (st := st) (ho := ho) (ep := ep) (si := si) kc6
          go_wp2_with fail
          refine (CV.out _).mono ?_
          rintro e w8 ⟨rfl, hw8⟩
          clear p0 p1 p2 p3 r0 r1 r2 r3
          have kd4 := kc4.below hw8 kc4.lt
          have hA8 := hA7.trans (hw8.mono hA7.size)
          clear kc4 kc6 hA7 hw8 hw4
          replace d1 := (hA8.cell (block_lt_of_cell d1)).trans d1
          go_wp2_with fail
          refine (CP.out _ ?hp _).mono ?_
          case hp => omega
          rintro e w9 ⟨q, rfl, hq0, hq1, rfl⟩
          go_wp2_with fail
          refine (CA.out _ ?h1 ?h2 ?h3 _ (HL.out.below hA8 (Nat.le_refl _))).mono ?_
          case h1 => omega
          case h2 => omega
          case h3 => exact HFX.out _ (fun h => absurd h (by omega)) (fun h => by rw [HBB.out]; omega)
          rintro e w10 ⟨rfl, hw10⟩
          have kd5 := (kd4.below hw10 kd4.lt).alloc (.cells #[.int .i64 st, .int .i64 ho, .int .i64 ep, .int .i64 si] 26)
          obtain ⟨p0, p1, p2, p3⟩ := line_cells (st := st) (ho := ho) (ep := ep) (si := si) kd5
          have hA10 := hA8.trans (hw10.mono hA8.size)
          have hBF := HB2.out.trans (hA10.mono HB2.out.size)
          have hBG := hBF.alloc hBF.size (.cells #[.int .i64 st, .int .i64 ho, .int .i64 ep, .int .i64 si] 26)
          clear hA8 hw10 kd4 kd5 hA10 hBF
          go_wp2
          go_ret
          exact ⟨rfl, hBG⟩

        ·
          obtain ⟨ad2, hB2', e0, e1, e2⟩ := HL.out (k - 1) (by omega)
          cases hB2'
          obtain ⟨lo, hlo⟩ : ∃ lo, (L[k - 1]'(by omega)).a = lo := ⟨_, rfl⟩
          rw [hlo] at e1
          have hl1 : lo ≤ at_ := by rw [← hlo]; exact HLO.out hpos
          have hl0 : 0 ≤ lo := by rw [← hlo]; exact HLO0.out hpos
          have HLL := Lib.hid hlo
          obtain ⟨j, rfl⟩ : ∃ j, k = j + 1 := ⟨k - 1, by omega⟩
          rw [Nat.add_sub_cancel] at e1
          have hjm : j < m := by omega
          clear e0 e2 hlo
          go_wp2_with fail
          refine (CA.out at_ ha0 ha1 hK _ HL.out).mono ?_
          rintro e w4 ⟨rfl, hw4⟩
          have kb4 := Blk.new w4 #[.int .i64 st, .int .i64 ho, .int .i64 ep, .int .i64 si] 26
          have hB4 := HB2.out.trans (hw4.mono HB2.out.size)
          have hA5 := hw4.alloc hw4.size (.cells #[.int .i64 st, .int .i64 ho, .int .i64 ep, .int .i64 si] 26)
          go_upto_region 9 with fail
          generalize w4.alloc (.cells #[.int .i64 st, .int .i64 ho, .int .i64 ep, .int .i64 si] 26) = W5 at kb4 hA5 ⊢
          generalize w4.heap.size = b4 at kb4 ⊢
          go_wp2_with fail
          refine (CR.out _ (HL.out.below hA5 (Nat.le_refl _))).mono ?_
          rintro e w6 ⟨rfl, hw6⟩
          go_upto_region 10 with fail
          have kc4 := (kb4.below hw6 kb4.lt).alloc (.cells #[.int .i64 st, .int .i64 ho, .int .i64 ep, .int .i64 si] 26)
          have kc6 := Blk.new w6 #[.int .i64 st, .int .i64 ho, .int .i64 ep, .int .i64 si] 26
          have hA6 := hA5.trans (hw6.mono hA5.size)
          have hA7 := hA6.alloc hA6.size (.cells #[.int .i64 st, .int .i64 ho, .int .i64 ep, .int .i64 si] 26)
          generalize w6.alloc (.cells #[.int .i64 st, .int .i64 ho, .int .i64 ep, .int .i64 si] 26) = W7 at kc4 kc6 hA7 ⊢
          generalize w6.heap.size = b6 at kc6 ⊢
          clear hw6 hA6 hA5 kb4
          obtain ⟨p0, p1, p2, p3⟩ := line_cells (st := st) (ho := ho) (ep := ep) (si := si) kc4
          obtain ⟨r0, r1, r2, r3⟩ := line_cells (st := st) (ho := ho) (ep := ep) (si := si) kc6
          go_wp2_with fail
          refine (CV.out _).mono ?_
          rintro e w8 ⟨rfl, hw8⟩
          clear p0 p1 p2 p3 r0 r1 r2 r3
          have kd4 := kc4.below hw8 kc4.lt
          have hA8 := hA7.trans (hw8.mono hA7.size)
          clear kc4 kc6 hA7 hw8 hw4
          replace e1 := (hA8.cell (block_lt_of_cell e1)).trans e1
          replace d1 := (hA8.cell (block_lt_of_cell d1)).trans d1
          go_wp2_with fail
          refine (CP.out _ ?hp _).mono ?_
          case hp => omega
          rintro e w9 ⟨q, rfl, hq0, hq1, rfl⟩
          go_wp2_with fail
          refine (CA.out _ ?h1 ?h2 ?h3 _ (HL.out.below hA8 (Nat.le_refl _))).mono ?_
          case h1 => omega
          case h2 => omega
          case h3 => exact HFX.out _ (fun h => by rw [HLL.out]; omega) (fun h => by rw [HBB.out]; omega)
          rintro e w10 ⟨rfl, hw10⟩
          have kd5 := (kd4.below hw10 kd4.lt).alloc (.cells #[.int .i64 st, .int .i64 ho, .int .i64 ep, .int .i64 si] 26)
          obtain ⟨p0, p1, p2, p3⟩ := line_cells (st := st) (ho := ho) (ep := ep) (si := si) kd5
          have hA10 := hA8.trans (hw10.mono hA8.size)
          have hBF := HB2.out.trans (hA10.mono HB2.out.size)
          have hBG := hBF.alloc hBF.size (.cells #[.int .i64 st, .int .i64 ho, .int .i64 ep, .int .i64 si] 26)
          clear hA8 hw10 kd4 kd5 hA10 hBF
          go_wp2
          go_ret
          exact ⟨rfl, hBG⟩

    · obtain rfl : k = K := by omega
      have hmk : k = m := by omega
      subst hmk
      rcases Nat.eq_zero_or_pos k with hz | hpos
      ·
        subst hz
        go_wp2_with fail
        refine (CA.out at_ ha0 ha1 hK _ HL.out).mono ?_
        rintro e w4 ⟨rfl, hw4⟩
        have kb4 := Blk.new w4 #[.int .i64 st, .int .i64 ho, .int .i64 ep, .int .i64 si] 26
        have hB4 := HB2.out.trans (hw4.mono HB2.out.size)
        have hA5 := hw4.alloc hw4.size (.cells #[.int .i64 st, .int .i64 ho, .int .i64 ep, .int .i64 si] 26)
        go_upto_region 9 with fail
        generalize w4.alloc (.cells #[.int .i64 st, .int .i64 ho, .int .i64 ep, .int .i64 si] 26) = W5 at kb4 hA5 ⊢
        generalize w4.heap.size = b4 at kb4 ⊢
        go_wp2_with fail
        refine (CR.out _ (HL.out.below hA5 (Nat.le_refl _))).mono ?_
        rintro e w6 ⟨rfl, hw6⟩
        go_upto_region 10 with fail
        have kc4 := (kb4.below hw6 kb4.lt).alloc (.cells #[.int .i64 st, .int .i64 ho, .int .i64 ep, .int .i64 si] 26)
        have kc6 := Blk.new w6 #[.int .i64 st, .int .i64 ho, .int .i64 ep, .int .i64 si] 26
        have hA6 := hA5.trans (hw6.mono hA5.size)
        have hA7 := hA6.alloc hA6.size (.cells #[.int .i64 st, .int .i64 ho, .int .i64 ep, .int .i64 si] 26)
        generalize w6.alloc (.cells #[.int .i64 st, .int .i64 ho, .int .i64 ep, .int .i64 si] 26) = W7 at kc4 kc6 hA7 ⊢
        generalize w6.heap.size = b6 at kc6 ⊢
        clear hw6 hA6 hA5 kb4
        obtain ⟨p0, p1, p2, p3⟩ := line_cells (st := st) (ho := ho) (ep := ep) (si := si) kc4
        obtain ⟨r0, r1, r2, r3⟩ := line_cells (st := st) (ho := ho) (ep := ep) (si := si) kc6
        go_wp2_with fail
        refine (CV.out _).mono ?_
        rintro e w8 ⟨rfl, hw8⟩
        clear p0 p1 p2 p3 r0 r1 r2 r3
        have kd4 := kc4.below hw8 kc4.lt
        have hA8 := hA7.trans (hw8.mono hA7.size)
        clear kc4 kc6 hA7 hw8 hw4
        go_wp2_with fail
        refine (CP.out _ ?hp _).mono ?_
        case hp => omega
        rintro e w9 ⟨q, rfl, hq0, hq1, rfl⟩
        go_wp2_with fail
        refine (CA.out _ ?h1 ?h2 ?h3 _ (HL.out.below hA8 (Nat.le_refl _))).mono ?_
        case h1 => omega
        case h2 => omega
        case h3 => exact HFX.out _ (fun h => absurd h (by omega)) (fun h => absurd h (by omega))
        rintro e w10 ⟨rfl, hw10⟩
        have kd5 := (kd4.below hw10 kd4.lt).alloc (.cells #[.int .i64 st, .int .i64 ho, .int .i64 ep, .int .i64 si] 26)
        obtain ⟨p0, p1, p2, p3⟩ := line_cells (st := st) (ho := ho) (ep := ep) (si := si) kd5
        have hA10 := hA8.trans (hw10.mono hA8.size)
        have hBF := HB2.out.trans (hA10.mono HB2.out.size)
        have hBG := hBF.alloc hBF.size (.cells #[.int .i64 st, .int .i64 ho, .int .i64 ep, .int .i64 si] 26)
        clear hA8 hw10 kd4 kd5 hA10 hBF
        go_wp2
        go_ret
        exact ⟨rfl, hBG⟩

      ·
        obtain ⟨ad2, hB2', e0, e1, e2⟩ := HL.out (k - 1) (by omega)
        subst hB2'
        obtain ⟨lo, hlo⟩ : ∃ lo, (L[k - 1]'(by omega)).a = lo := ⟨_, rfl⟩
        rw [hlo] at e1
        have hl1 : lo ≤ at_ := by rw [← hlo]; exact HLO.out hpos
        have hl0 : 0 ≤ lo := by rw [← hlo]; exact HLO0.out hpos
        have HLL := Lib.hid hlo
        obtain ⟨j, rfl⟩ : ∃ j, k = j + 1 := ⟨k - 1, by omega⟩
        rw [Nat.add_sub_cancel] at e1
        have hjm : j < j + 1 := by omega
        clear e0 e2 hlo
        go_wp2_with fail
        refine (CA.out at_ ha0 ha1 hK _ HL.out).mono ?_
        rintro e w4 ⟨rfl, hw4⟩
        have kb4 := Blk.new w4 #[.int .i64 st, .int .i64 ho, .int .i64 ep, .int .i64 si] 26
        have hB4 := HB2.out.trans (hw4.mono HB2.out.size)
        have hA5 := hw4.alloc hw4.size (.cells #[.int .i64 st, .int .i64 ho, .int .i64 ep, .int .i64 si] 26)
        go_upto_region 9 with fail
        generalize w4.alloc (.cells #[.int .i64 st, .int .i64 ho, .int .i64 ep, .int .i64 si] 26) = W5 at kb4 hA5 ⊢
        generalize w4.heap.size = b4 at kb4 ⊢
        go_wp2_with fail
        refine (CR.out _ (HL.out.below hA5 (Nat.le_refl _))).mono ?_
        rintro e w6 ⟨rfl, hw6⟩
        go_upto_region 10 with fail
        have kc4 := (kb4.below hw6 kb4.lt).alloc (.cells #[.int .i64 st, .int .i64 ho, .int .i64 ep, .int .i64 si] 26)
        have kc6 := Blk.new w6 #[.int .i64 st, .int .i64 ho, .int .i64 ep, .int .i64 si] 26
        have hA6 := hA5.trans (hw6.mono hA5.size)
        have hA7 := hA6.alloc hA6.size (.cells #[.int .i64 st, .int .i64 ho, .int .i64 ep, .int .i64 si] 26)
        generalize w6.alloc (.cells #[.int .i64 st, .int .i64 ho, .int .i64 ep, .int .i64 si] 26) = W7 at kc4 kc6 hA7 ⊢
        generalize w6.heap.size = b6 at kc6 ⊢
        clear hw6 hA6 hA5 kb4
        obtain ⟨p0, p1, p2, p3⟩ := line_cells (st := st) (ho := ho) (ep := ep) (si := si) kc4
        obtain ⟨r0, r1, r2, r3⟩ := line_cells (st := st) (ho := ho) (ep := ep) (si := si) kc6
        go_wp2_with fail
        refine (CV.out _).mono ?_
        rintro e w8 ⟨rfl, hw8⟩
        clear p0 p1 p2 p3 r0 r1 r2 r3
        have kd4 := kc4.below hw8 kc4.lt
        have hA8 := hA7.trans (hw8.mono hA7.size)
        clear kc4 kc6 hA7 hw8 hw4
        replace e1 := (hA8.cell (block_lt_of_cell e1)).trans e1
        go_wp2_with fail
        refine (CP.out _ ?hp _).mono ?_
        case hp => omega
        rintro e w9 ⟨q, rfl, hq0, hq1, rfl⟩
        go_wp2_with fail
        refine (CA.out _ ?h1 ?h2 ?h3 _ (HL.out.below hA8 (Nat.le_refl _))).mono ?_
        case h1 => omega
        case h2 => omega
        case h3 => exact HFX.out _ (fun h => by rw [HLL.out]; omega) (fun h => absurd h (by omega))
        rintro e w10 ⟨rfl, hw10⟩
        have kd5 := (kd4.below hw10 kd4.lt).alloc (.cells #[.int .i64 st, .int .i64 ho, .int .i64 ep, .int .i64 si] 26)
        obtain ⟨p0, p1, p2, p3⟩ := line_cells (st := st) (ho := ho) (ep := ep) (si := si) kd5
        have hA10 := hA8.trans (hw10.mono hA8.size)
        have hBF := HB2.out.trans (hA10.mono HB2.out.size)
        have hBG := hBF.alloc hBF.size (.cells #[.int .i64 st, .int .i64 ho, .int .i64 ep, .int .i64 si] 26)
        clear hA8 hw10 kd4 kd5 hA10 hBF
        go_wp2
        go_ret
        exact ⟨rfl, hBG⟩

end Go.Proofs.Yteilkigdlkeiaaa.Lf
