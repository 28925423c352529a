/- life.Stays, by its contract. -/
import Derived.Test.YteilkigdlkeiaaaG5
import Derived.Sort.QuietIn
import Derived.Sort.CutIn
import Derived.Maps.AppendAt
namespace Go.Proofs.Yteilkigdlkeiaaa.Lf
set_option linter.unusedVariables false
set_option linter.unusedSimpArgs false
open Go Go.RowKit
attribute [local go_sem] Oper.semAt_some wide_depth

/-- a stay: holder, epoch, from, to -/
structure Sy where
  ho : Int
  ep : Int
  fr : Int
  tt : Int
deriving DecidableEq
def Sy.vs (s : Sy) : List Value := [.int .i64 s.ho, .int .i64 s.ep, .int .i64 s.fr, .int .i64 s.tt]
def flatS (l : List Sy) : List Value := l.flatMap Sy.vs
theorem flatS_snoc (l : List Sy) (s : Sy) : flatS (l ++ [s]) = flatS l ++ s.vs := by simp [flatS]
theorem flatS_len : ∀ l : List Sy, (flatS l).length = l.length * 4
  | [] => rfl
  | s :: l => by have := flatS_len l; simp only [flatS, List.flatMap_cons, List.length_append, List.length_cons] at *; rw [this]; simp [Sy.vs]; omega

/-- the end of the line after the event with index i -/
def endOf (L : List Ev) (i : Int) : Int := if i + 1 < L.length then (L.getD (i + 1).toNat ⟨0, 0, 0⟩).a else 10000001
/-- one more line is taken into the stays -/
def addStay (out : List Sy) (l : Ln) (e : Int) : List Sy :=
  if usedB l = true ∧ l.si ≠ e then
    match out.getLast? with
    | some x => if x.ep = l.ep ∧ x.tt = l.si then out.dropLast ++ [⟨x.ho, x.ep, x.fr, e⟩] else out ++ [⟨l.ho, l.ep, l.si, e⟩]
    | none => out ++ [⟨l.ho, l.ep, l.si, e⟩]
  else out
def staysOf (L : List Ev) (its : List (Int × Ln)) : List Sy := its.foldl (fun o x => addStay o x.2 (endOf L x.1)) []
theorem staysOf_snoc (L : List Ev) (p : List (Int × Ln)) (x : Int × Ln) : staysOf L (p ++ [x]) = addStay (staysOf L p) x.2 (endOf L x.1) := by simp [staysOf]
theorem addStay_len (o : List Sy) (l : Ln) (e : Int) : (addStay o l e).length ≤ o.length + 1 := by
  unfold addStay
  split
  · split
    · split
      · simp
      · simp
    · simp
  · omega
theorem staysOf_len (L : List Ev) : ∀ (its : List (Int × Ln)) , (staysOf L its).length ≤ its.length := by
  have h : ∀ (its : List (Int × Ln)) (o : List Sy), (its.foldl (fun o x => addStay o x.2 (endOf L x.1)) o).length ≤ o.length + its.length := by
    intro its
    induction its with
    | nil => intro o; simp
    | cons x t ih => intro o; have := ih (addStay o x.2 (endOf L x.1)); have := addStay_len o x.2 (endOf L x.1); simp only [List.foldl_cons, List.length_cons]; omega
  intro its
  have := h its []
  simpa [staysOf] using this

/-- the value of the row, or none -/
def stayRow (W : World) (base : Nat) (v : Value) (o : List Sy) : Prop := W.ownsRow base 62 4 v o.length (flatS o)

theorem row_ab {W W' : World} {B0 base : Nat} {v : Value} {o : List Sy} (h : stayRow W base v o) (hab : Ab B0 W W') : stayRow W' base v o := by
  rcases h.2 with ⟨rfl, h2⟩ | ⟨g, cap, cur, rfl, hb, hg, rest⟩
  · exact ⟨h.1, .inl ⟨rfl, h2⟩⟩
  · exact ⟨h.1, .inr ⟨g, cap, cur, rfl, hb, hab.block g _ hg (fun _ c f e => by cases e), rest⟩⟩

theorem keeps_below {W W' : World} (h : Below W.heap.size W W') : KeepsOthers W W' := ⟨h.size, fun k o hk _ => (h.block k (Array.getElem?_eq_some_iff.1 hk).1).trans hk⟩
theorem row_below' {W W' : World} {base : Nat} {v : Value} {o : List Sy} (h : stayRow W base v o) (hb : Below W.heap.size W W') : stayRow W' base v o := by
  rcases h.2 with ⟨rfl, h2⟩ | ⟨g, cap, cur, rfl, hbs, hg, rest⟩
  · exact ⟨h.1, .inl ⟨rfl, h2⟩⟩
  · exact ⟨h.1, .inr ⟨g, cap, cur, rfl, hbs, (hb.block g (Array.getElem?_eq_some_iff.1 hg).1).trans hg, rest⟩⟩
theorem after_len : ∀ (es : List Ev) (i : Nat) (l : Ln), (after i l es).length ≤ es.length
  | [], i, l => by simp [after]
  | e :: es, i, l => by
    simp only [after]
    split
    · simp
    · have := after_len es (i + 1) ‹Ln›; simp; omega
theorem items_len (L : List Ev) : (items L).length ≤ L.length + 1 := by have := after_len L 0 firstL; simp [items]; omega

theorem info_stay : (Try.prog.info? 62).map (fun i => (i.zero, i.size, i.bytes)) = some (some (.agg #[.int .i64 0, .int .i64 0, .int .i64 0, .int .i64 0]), 4, 32) := by kernel_rfl

theorem stay_forms {W : World} {base : Nat} {v : Value} {o : List Sy} (h : stayRow W base v o) : (v = .slice none 0 0 ∧ o.length = 0) ∨ ∃ g cap, v = .slice (some ⟨g, 0, none⟩) o.length cap := by
  rcases h.2 with h | ⟨g, cap, _, rfl, _⟩
  · exact .inl h
  · exact .inr ⟨g, cap, rfl⟩

theorem cell_four_new (w : World) (x y z u : Value) (t : TypeId) : ∀ j v, [x, y, z, u][j]? = some v → (w.alloc (.cells #[x, y, z, u] t)).cell? ((⟨w.heap.size, 0, none⟩ : Addr).add j) = some v := by
  intro j v hj
  have b := Blk.new w #[x, y, z, u] t
  have e : (⟨w.heap.size, 0, none⟩ : Addr).add j = ⟨w.heap.size, j, none⟩ := by rw [Addr.add_lit]; simp
  rw [e]
  exact b.cell j (by simpa using hj)
theorem one_cells4 (x y z u : Int) : ∀ v ∈ [Value.int .i64 x, .int .i64 y, .int .i64 z, .int .i64 u], v.oneCell' = true := by
  intro v hv
  simp at hv
  rcases hv with rfl | rfl | rfl | rfl <;> rfl
theorem Blk.not_row' {W : World} {B : Nat} {c : Array Value} {t e : TypeId} (h : Blk W B c t) (hte : t ≠ e) {base size k : Nat} {v : Value} {xs : List Value} (hr : W.ownsRow base e size v k xs) : some B ≠ v.ownBlock := by
  rcases hr.2 with ⟨rfl, _⟩ | ⟨g, cap, cur, rfl, _, hgb, _⟩
  · simp [Value.ownBlock]
  · intro e'
    obtain rfl : B = g := by simpa [Value.ownBlock] using e'
    have := (show W.heap[B]? = _ from h).symm.trans hgb
    simp at this
    exact hte this.2
theorem kp_grown {W W1 W' : World} {base B : Nat} {v : Value} {o : List Sy} (hrow : stayRow W base v o) (h0 : ∀ k, k < W.heap.size → W1.heap[k]? = W.heap[k]?) (hs : W.heap.size ≤ W1.heap.size) (hg : W1.grownBy W' v.ownBlock) : Kp (fun k => k = B) base none none W W' := by
  refine ⟨Nat.le_trans hs hg.size, fun k c t f hk hF hr => ?_, rfl⟩
  have hlt := (Array.getElem?_eq_some_iff.1 hk).1
  rw [hg.block k (by omega) ?_, h0 k hlt, hk]
  intro e
  rcases hrow.2 with ⟨rfl, _⟩ | ⟨g, cap, cur, rfl, hb, hgb, _⟩
  · simp [Value.ownBlock] at e
  · obtain rfl : k = g := by simpa [Value.ownBlock] using e
    rw [hgb] at hk
    cases hk
    rcases hr with hr | hr
    · omega
    · exact hr rfl
theorem flatS_set (init : List Sy) (a b c d e : Int) : flatS (init ++ [⟨a, b, c, e⟩]) = (flatS (init ++ [⟨a, b, c, d⟩])).set (init.length * 4 + 3) (.int .i64 e) := by
  rw [flatS_snoc, flatS_snoc, List.set_append_right _ _ (by rw [flatS_len]; omega), flatS_len, show init.length * 4 + 3 - init.length * 4 = 3 by omega]
  rfl
theorem drewN_below {n : Nat} {w W : World} (q : Nat) (h : Below n w W) : Below n w (W.drewN q) := ⟨h.os, h.tape, h.output, h.size, h.block⟩

set_option maxHeartbeats 8000000 in
set_option maxRecDepth 100000 in
theorem stays_good (A : Option Addr) (n c : Nat) (L : List Ev) (hn : L.length = n) (hn2 : n ≤ 40) (hc : n ≤ c) (hl : lifeB L = true) (w : World) (hE : EvsIn w A L) :
    Calls Try.prog 19 #[.slice A n c] w fun e w' => ∃ v, e = .returned (.tuple #[v, .int .i64 0]) ∧ stayRow w' w.heap.size v (staysOf L (items L)) ∧ Below w.heap.size w w' := by
  have C1 := Lib.hid (fun (W : World) (h : EvsIn W A L) => run_any A n c L hn (by omega) hc W h)
  have C2 := Lib.hid used_any
  have HV := Lib.hid (runV_life hl)
  rw [HV.out] at C1
  generalize lineFrom firstL L = ll at C1
  obtain ⟨st0, ho0, ep0, si0⟩ := ll
  dsimp only [Ln.v] at C1
  obtain ⟨i0, hinf, hz0, hz1, hz2⟩ := info_parts info_stay
  refine callsIn_wide (n := 0) |>.1 ?_
  refine callsIn_of_wp_marks Try.func19 rfl trivial ?_ rfl
  simp only [Try.ntmps19, List.size_toArray, List.length_cons, List.length_nil, Nat.reduceAdd, Nat.reduceSub, Array.replicate_succ, Array.replicate_zero, List.push_toArray, List.append_toArray, List.nil_append, List.cons_append]
  gi_wp2_with fail
  have k0 := Blk.new w #[.slice A n c] 24
  have hB0 : Below w.heap.size w (w.alloc (.cells #[.slice A n c] 24)) := (Below.refl _ _).alloc (Nat.le_refl _) _
  refine ⟨trivial, callsIn_wide.2 ((C1.out _ (hE.below hB0 (Nat.le_refl _))).mono ?_)⟩
  rintro e w1 ⟨rfl, hw1⟩
  have k1 := (k0.below hw1 k0.lt).alloc (.cells #[.int .i64 st0, .int .i64 ho0, .int .i64 ep0, .int .i64 si0] 26)
  have c1 := (k1.alloc (.cells #[.slice none 0 0] 37)).cell 0 rfl
  have s1 : w.heap.size < w1.heap.size := (k0.below hw1 k0.lt).lt
  have hB1 : Below w.heap.size w w1 := hB0.trans (hw1.mono hB0.size)
  have kO := Blk.new (w1.alloc (.cells #[.int .i64 st0, .int .i64 ho0, .int .i64 ep0, .int .i64 si0] 26)) #[.slice none 0 0] 37
  have hB3 := (hB1.alloc hB1.size (.cells #[.int .i64 st0, .int .i64 ho0, .int .i64 ep0, .int .i64 si0] 26)).alloc (by have := hB1.size; simp; omega) (.cells #[.slice none 0 0] 37)
  gi_wp2_with fail
  refine ⟨trivial, (lines_in _ rfl _ _ _ _).mono ?_⟩
  rintro e w' ⟨rfl, rfl⟩
  gi_wp2_with fail
  have kS := (k1.alloc (.cells #[.slice none 0 0] 37)).alloc (.cells #[.slice A n c] 24)
  replace kO := kO.alloc (.cells #[.slice A n c] 24)
  have kC := Blk.new ((w1.alloc (.cells #[.int .i64 st0, .int .i64 ho0, .int .i64 ep0, .int .i64 si0] 26)).alloc (.cells #[.slice none 0 0] 37)) #[.slice A n c] 24
  replace hB3 := hB3.alloc hB3.size (.cells #[.slice A n c] 24)
  have hsz : (((w1.alloc (.cells #[.int .i64 st0, .int .i64 ho0, .int .i64 ep0, .int .i64 si0] 26)).alloc (.cells #[.slice none 0 0] 37)).alloc (.cells #[.slice A n c] 24)).heap.size = w1.heap.size + 3 := by simp
  simp only [World.size_alloc] at kO kC
  generalize ((w1.alloc (.cells #[.int .i64 st0, .int .i64 ho0, .int .i64 ep0, .int .i64 si0] 26)).alloc (.cells #[.slice none 0 0] 37)).alloc (.cells #[.slice A n c] 24) = W4 at kS kO kC hB3 hsz ⊢
  clear k0 hB0 hw1 k1 c1 hB1 C1
  have hEl : 0 < L.length → ∀ ad, A = some ad → ad.block < w.heap.size := fun h => hE.lt h
  generalize hm : w1.heap.size = m at s1 kO kC hsz ⊢
  clear hm
  refine Ra.law (gf := 56) (lb := #[.pointer (some ⟨m + 1 + 1, 0, none⟩)]) rfl (enters_of Try.func56 (by kernel_rfl) rfl)
    (encs := encs) (Ab := Ab (m + 5)) (Kp := Kp (fun k => k = m + 1) w.heap.size) (Lt := Lt) (r0 := none) (Nx := Nx L) (S := fun xs => xs = items L) (Sp := fun pre => pre <+: items L)
    ?hit ?hAb (fun h k => h.trans k) (fun r W l o o' _ hl ho => Kp.book r W l o o' hl ho) (fun _ => rfl)
    (fun pre r W => (∃ v, Blk W (m + 1) #[v] 37 ∧ stayRow W w.heap.size v (staysOf L pre)) ∧ Blk W w.heap.size #[.slice A n c] 24 ∧ EvsIn W A L ∧ Below w.heap.size w W ∧ r = none)
    (fun _ _ _ _ => False) ?hIa (fun _ _ _ _ _ h _ => h) (fun _ _ _ _ => trivial) ?hI (fun _ => ⟨fun _ _ _ _ h => h, fun _ _ _ _ _ _ h _ _ _ => h⟩) ?h0
    (fun x b => { tmps := #[.slice A n c, .pointer (some ⟨w.heap.size, 0, none⟩), .slice none 0 0, .int .i64 0, .pointer (some ⟨m, 0, none⟩), .int .i64 n, .int .i64 0, .pointer (some ⟨m + 1, 0, none⟩), .int .i64 x.1, .pointer (some ⟨b, 0, none⟩), undef, undef, .tuple #[.agg #[.int .i64 st0, .int .i64 ho0, .int .i64 ep0, .int .i64 si0], .int .i64 n, .int .i64 0], .slice A n c, .tuple #[.agg #[.int .i64 st0, .int .i64 ho0, .int .i64 ep0, .int .i64 si0], .int .i64 n, .int .i64 0], .agg #[.int .i64 st0, .int .i64 ho0, .int .i64 ep0, .int .i64 si0], .int .i64 n, .int .i64 0, .int .i64 0, .bool false, .slice A n c, .func (.func 56) #[] #[.pointer (some ⟨m + 1 + 1, 0, none⟩)], .int .i64 x.1, x.2.v, undef, undef, undef, undef, undef, undef, undef, undef, undef, undef, undef, undef, undef, undef, undef, undef, undef, undef, undef, undef, undef, undef, undef, undef, undef, undef, undef, undef, undef, undef, undef, undef, undef, undef, undef, undef, undef, undef, undef, undef, undef, undef, undef, undef, undef, undef, undef, undef, undef, undef, undef, undef, undef, undef, undef, undef, undef, undef, undef, undef, undef, undef, undef, undef, undef], defers := [] })
    (fun x => .cells (lineCells x.2) 26) (fun r W o => Kp.alloc r W o) ?assign ?body ?done ?stop
  case hit =>
    intro l W1 hl hb hs
    rw [hsz] at hs
    rw [show m + 5 = W1.heap.size by omega]
    exact lines1 _ w.heap.size l (m + 1 + 1) A n c L hn (by omega) W1 (kC.below hb (by omega)) ((hE.below hB3 (Nat.le_refl _)).below hb (Nat.le_refl _)) (fun k hk => by omega) (by omega) (fun hl ad' e => by have := hEl hl ad' e; exact ⟨by omega, this⟩)
  case hAb =>
    intro A B hab k o _ ho hc
    exact hab.block k o ho fun _ c f e => by subst e; cases hc
  case hIa =>
    rintro pre r A' B ⟨⟨v, h1, h2⟩, h3, h4, h5, h6⟩ hab
    have h5' := below_ab h5 hab (by omega)
    exact ⟨⟨v, hab.blk h1 (.inr (by decide)), row_ab h2 hab⟩, hab.blk h3 (.inr (by decide)), hE.below h5' (Nat.le_refl _), h5', h6⟩
  case hI =>
    refine ⟨?_, ?_⟩
    · rintro pre r W o ⟨⟨v, h1, h2⟩, h3, h4, h5, h6⟩
      have h5' := h5.alloc h5.size o
      exact ⟨⟨v, h1.alloc o, row_below' h2 ((Below.refl _ _).alloc (Nat.le_refl _) o)⟩, h3.alloc o, hE.below h5' (Nat.le_refl _), h5', h6⟩
    · rintro pre r W l o o' ⟨⟨v, h1, h2⟩, h3, h4, h5, h6⟩ hl ho hc
      have h5' := below_putObj (o' := o') h5 (by omega : w.heap.size ≤ l)
      exact ⟨⟨v, h1.putObj o' ho hc, ownsRow_putObj h2 o' ho hc⟩, h3.putObj o' ho hc, hE.below h5' (Nat.le_refl _), h5', h6⟩
  case h0 => exact ⟨⟨_, kO, World.ownsRow_nil _ _ _ _⟩, kS, hE.below hB3 (Nat.le_refl _), hB3, rfl⟩
  case assign =>
    rintro l ⟨i, ⟨st, ho, ep, si⟩⟩ W K hK
    dsimp only [encs, Ln.v] at hK ⊢
    gi_wp2
    exact hK
  case body =>
    rintro l pre r ⟨i, ⟨st, ho, ep, si⟩⟩ b W W0 hnx ⟨⟨v, h1, hrow⟩, h3, h4, h5, rfl⟩ hb hob rfl _
    have hi := items_idx (hnx.subset (show (i, (⟨st, ho, ep, si⟩ : Ln)) ∈ pre ++ [(i, ⟨st, ho, ep, si⟩)] by simp))
    have kb : Blk W W0.heap.size (lineCells ⟨st, ho, ep, si⟩) 26 := hob
    obtain ⟨c0, c1, c2, c3⟩ := line_cells kb
    dsimp only [Ln.v]
    gi_wp2_with fail
    have C2' := Lib.hid (C2.out ⟨st, ho, ep, si⟩)
    have hend : staysOf L (pre ++ [(i, ⟨st, ho, ep, si⟩)]) = addStay (staysOf L pre) ⟨st, ho, ep, si⟩ (endOf L i) := staysOf_snoc L pre (i, ⟨st, ho, ep, si⟩)
    have HEND := Lib.hid hend
    clear hend
    have hplen : (staysOf L pre).length ≤ 41 := by
      have h1 := staysOf_len L pre
      have h2 := hnx.length_le
      have h3 := items_len L
      simp at h2
      omega
    generalize staysOf L pre = out at hrow HEND hplen
    rcases hu : usedB ⟨st, ho, ep, si⟩ with _ | _
    · rw [hu] at C2'
      refine ⟨trivial, (callsIn_wide.2 (C2'.out _)).inRound l |>.mono ?_⟩
      rintro e w5 ⟨rfl, hw5⟩
      clear C2 C2'
      gi_wp2_with fail
      refine ⟨keeps_below hw5, none, Kp.below none hw5, ⟨v, h1.below hw5 h1.lt, ?_⟩, h3.below hw5 h3.lt, h4.below hw5 (Nat.le_refl _), h5.trans (hw5.mono h5.size), rfl⟩
      rw [HEND.out, addStay, if_neg (by rw [hu]; simp)]
      exact row_below' hrow hw5
    · rw [hu] at C2'
      refine ⟨trivial, (callsIn_wide.2 (C2'.out _)).inRound l |>.mono ?_⟩
      rintro e w5 ⟨rfl, hw5⟩
      clear C2 C2'
      have kh5 := keeps_below hw5
      have kp5 : Kp (fun k => k = m + 1) w.heap.size none none W w5 := Kp.below none hw5
      replace h1 := h1.below hw5 h1.lt
      replace hrow := row_below' hrow hw5
      replace h3 := h3.below hw5 h3.lt
      replace h4 := h4.below hw5 (Nat.le_refl _)
      replace h5 := h5.trans (hw5.mono h5.size)
      replace kb := kb.below hw5 kb.lt
      clear hw5 hob c0 c1 c2 c3
      obtain ⟨c0, c1, c2, c3⟩ := line_cells kb
      have cS := h3.cell 0 rfl
      have cO := h1.cell 0 rfl
      have hmix : Try.prog.follows .mixedOrders = true := by kernel_rfl
      obtain ⟨j, hj⟩ : ∃ j : Nat, i + 1 = (j : Int) := ⟨(i + 1).toNat, by omega⟩
      have hw1 : wrap64 (i + 1) = (j : Int) := by unfold wrap64; omega
      have hw2 : IntKind.i64.wrap (i + 1) = (j : Int) := by rw [IntKind.wrap_i64]; omega
      by_cases hjn : j < n
      · obtain ⟨ad, rfl, d0, d1, d2⟩ := h4 j (by omega)
        have he : endOf L i = (L[j]'(by omega)).a := by
          unfold endOf
          rw [hj, if_pos (by omega)]
          simp [List.getD, List.getElem?_eq_getElem (show j < L.length by omega)]
        rw [he] at HEND
        generalize (L[j]'(by omega)).a = e at d1 HEND
        clear d0 d2 he
        rcases hsq : (si == e) with _ | _
        · rcases stay_forms hrow with ⟨rfl, hk⟩ | ⟨g, cap, rfl⟩
          · obtain rfl : out = [] := List.eq_nil_of_length_eq_zero hk
            gi_wp2_with fail
            refine Rnd.quiet_round _ rfl (by kernel_rfl) (by kernel_rfl) (by kernel_rfl) ?_
            repeat (gi_big_quiet_step (fail))
            refine wpQuietIn_nil ?_
            rintro w6 ⟨q, rfl⟩
            have g1 : Blk (w5.drewN q) (m + 1) #[(.slice none 0 0)] 37 := h1
            have grow : stayRow (w5.drewN q) w.heap.size (.slice none 0 0) [] := hrow
            have g3 : Blk (w5.drewN q) w.heap.size #[.slice (some ad) n c] 24 := h3
            have g4 : EvsIn (w5.drewN q) (some ad) L := h4
            have g5 := drewN_below q h5
            have gb : Blk (w5.drewN q) W0.heap.size (lineCells ⟨st, ho, ep, si⟩) 26 := kb
            have gh : KeepsOthers W (w5.drewN q) := ⟨kh5.size, kh5.same⟩
            have gp : Kp (fun k => k = m + 1) w.heap.size none none W (w5.drewN q) := ⟨kp5.size, kp5.block, rfl⟩
            generalize w5.drewN q = w6 at g1 grow g3 g4 g5 gb gh gp ⊢
            clear h1 hrow h3 h4 h5 kb kh5 kp5 c0 c1 c2 c3 cS cO
            obtain ⟨c0, c1, c2, c3⟩ := line_cells gb
            have cO := g1.cell 0 rfl
            have fO := g1.frozen 0
            have GR0 := grow
            unfold stayRow at grow
            gi_wp2_with (gi_at_builtin; refine wpListIn_append_own _ rfl _ _ 37 rfl w.heap.size 62 i0 (.agg #[.int .i64 0, .int .i64 0, .int .i64 0, .int .i64 0]) 4 32 Try.underlying37 hinf hz0 hz1 hz2 rfl (by decide) _ _ _ rfl (grow.alloc _) ⟨w6.heap.size, 0, none⟩ 1 1 [.int .i64 ho, .int .i64 ep, .int .i64 si, .int .i64 e] rfl rfl (cell_four_new _ _ _ _ _ _) (one_cells4 _ _ _ _) (by unfold maxLen; omega) (by omega) (by have := g5.size; simp; omega) ?_; intro v' w7 hown' hgrow _; obtain ⟨g', cap', rfl⟩ := ownsRow_succ hown'; obtain ⟨hv1, hv2, hr2, hk2, hb2⟩ := Boxed.appended (W := w6) g1 (by decide) grow g5.size (by omega) hown' hgrow; have hc1 := hv1.cell; have hf1 := hv1.frozen; have kpa := kp_grown (B := m + 1) GR0 (fun k hk => Below.heap_alloc _ _ _ hk) (by simp) hgrow)
            have kpb := gp.trans (kpa.trans (Kp.setCell none _ (m + 1) 0 (.slice (some ⟨g', 0, none⟩) (0 + 1) cap') rfl))
            have kpc := kpa.trans (Kp.setCell (F := fun k => k = m + 1) (N0 := w.heap.size) none _ (m + 1) 0 (.slice (some ⟨g', 0, none⟩) (0 + 1) cap') rfl)
            refine ⟨gh.trans hk2, none, kpb, ⟨_, hv2, ?_⟩, kpc.blk g3 (by omega) (.inr (by decide)), g4.kp kpc (fun hl ad' e' => by have := hEl hl ad' e'; exact ⟨by omega, this⟩), g5.trans hb2, rfl⟩
            unfold stayRow
            rw [HEND.out, addStay, if_pos ⟨hu, by rw [beq_eq_false_iff_ne] at hsq; exact hsq⟩]
            exact hr2

          · rcases List.eq_nil_or_concat out with rfl | ⟨init, x, hio⟩
            · rw [List.length_nil] at h1 cO hrow
              gi_wp2_with fail
              refine Rnd.quiet_round _ rfl (by kernel_rfl) (by kernel_rfl) (by kernel_rfl) ?_
              repeat (gi_big_quiet_step (fail))
              refine wpQuietIn_nil ?_
              rintro w6 ⟨q, rfl⟩
              have g1 : Blk (w5.drewN q) (m + 1) #[(.slice (some ⟨g, 0, none⟩) 0 cap)] 37 := h1
              have grow : stayRow (w5.drewN q) w.heap.size (.slice (some ⟨g, 0, none⟩) 0 cap) [] := hrow
              have g3 : Blk (w5.drewN q) w.heap.size #[.slice (some ad) n c] 24 := h3
              have g4 : EvsIn (w5.drewN q) (some ad) L := h4
              have g5 := drewN_below q h5
              have gb : Blk (w5.drewN q) W0.heap.size (lineCells ⟨st, ho, ep, si⟩) 26 := kb
              have gh : KeepsOthers W (w5.drewN q) := ⟨kh5.size, kh5.same⟩
              have gp : Kp (fun k => k = m + 1) w.heap.size none none W (w5.drewN q) := ⟨kp5.size, kp5.block, rfl⟩
              generalize w5.drewN q = w6 at g1 grow g3 g4 g5 gb gh gp ⊢
              clear h1 hrow h3 h4 h5 kb kh5 kp5 c0 c1 c2 c3 cS cO
              obtain ⟨c0, c1, c2, c3⟩ := line_cells gb
              have cO := g1.cell 0 rfl
              have fO := g1.frozen 0
              have GR0 := grow
              unfold stayRow at grow
              gi_wp2_with (gi_at_builtin; refine wpListIn_append_own _ rfl _ _ 37 rfl w.heap.size 62 i0 (.agg #[.int .i64 0, .int .i64 0, .int .i64 0, .int .i64 0]) 4 32 Try.underlying37 hinf hz0 hz1 hz2 rfl (by decide) _ _ _ rfl (grow.alloc _) ⟨w6.heap.size, 0, none⟩ 1 1 [.int .i64 ho, .int .i64 ep, .int .i64 si, .int .i64 e] rfl rfl (cell_four_new _ _ _ _ _ _) (one_cells4 _ _ _ _) (by unfold maxLen; omega) (by omega) (by have := g5.size; simp; omega) ?_; intro v' w7 hown' hgrow _; obtain ⟨g', cap', rfl⟩ := ownsRow_succ hown'; obtain ⟨hv1, hv2, hr2, hk2, hb2⟩ := Boxed.appended (W := w6) g1 (by decide) grow g5.size (by omega) hown' hgrow; have hc1 := hv1.cell; have hf1 := hv1.frozen; have kpa := kp_grown (B := m + 1) GR0 (fun k hk => Below.heap_alloc _ _ _ hk) (by simp) hgrow)
              have kpb := gp.trans (kpa.trans (Kp.setCell none _ (m + 1) 0 (.slice (some ⟨g', 0, none⟩) (0 + 1) cap') rfl))
              have kpc := kpa.trans (Kp.setCell (F := fun k => k = m + 1) (N0 := w.heap.size) none _ (m + 1) 0 (.slice (some ⟨g', 0, none⟩) (0 + 1) cap') rfl)
              refine ⟨gh.trans hk2, none, kpb, ⟨_, hv2, ?_⟩, kpc.blk g3 (by omega) (.inr (by decide)), g4.kp kpc (fun hl ad' e' => by have := hEl hl ad' e'; exact ⟨by omega, this⟩), g5.trans hb2, rfl⟩
              unfold stayRow
              rw [HEND.out, addStay, if_pos ⟨hu, by rw [beq_eq_false_iff_ne] at hsq; exact hsq⟩]
              exact hr2

            · rw [List.concat_eq_append] at hio
              subst hio
              obtain ⟨xho, xep, xfr, xtt⟩ := x
              have hlen : (init ++ [(⟨xho, xep, xfr, xtt⟩ : Sy)]).length = init.length + 1 := by simp
              have hrow' := hrow
              unfold stayRow at hrow'
              rw [hlen] at hrow' h1 cO hrow hplen
              have hcell : ∀ j (h : j < 4), w5.cell? ⟨g, init.length * 4 + j, none⟩ = (Sy.vs ⟨xho, xep, xfr, xtt⟩)[j]? := by
                intro j hj
                rw [hrow'.cellAt (init.length * 4 + j) (by omega), flatS_snoc, List.getElem?_append_right (by rw [flatS_len]; omega), flatS_len]
                congr 1; omega
              have x1 : w5.cell? ⟨g, init.length * 4 + 1, none⟩ = some (.int .i64 xep) := hcell 1 (by omega)
              have x3 : w5.cell? ⟨g, init.length * 4 + 3, none⟩ = some (.int .i64 xtt) := hcell 3 (by omega)
              have x3' : w5.cell? ⟨g, init.length * 4 + 2 + 1, none⟩ = some (.int .i64 xtt) := hcell 3 (by omega)
              clear hcell
              obtain ⟨kk, hkk⟩ : ∃ kk, init.length = kk := ⟨_, rfl⟩
              rw [hkk] at x1 x3 x3' h1 cO hrow' hrow hplen
              have hw3 : wrap64 ((kk : Int) + 1 - 1) = (kk : Int) := by unfold wrap64; omega
              have hw4 : IntKind.i64.wrap ((kk : Int) + 1 - 1) = (kk : Int) := by rw [IntKind.wrap_i64]; omega

              rcases hq1 : (xep == ep) with _ | _
              · gi_wp2_with fail
                refine Rnd.quiet_round _ rfl (by kernel_rfl) (by kernel_rfl) (by kernel_rfl) ?_
                repeat (gi_big_quiet_step (fail))
                refine wpQuietIn_nil ?_
                rintro w6 ⟨q, rfl⟩
                have g1 : Blk (w5.drewN q) (m + 1) #[(.slice (some ⟨g, 0, none⟩) (kk + 1) cap)] 37 := h1
                have grow : stayRow (w5.drewN q) w.heap.size (.slice (some ⟨g, 0, none⟩) (kk + 1) cap) (init ++ [⟨xho, xep, xfr, xtt⟩]) := hrow
                have g3 : Blk (w5.drewN q) w.heap.size #[.slice (some ad) n c] 24 := h3
                have g4 : EvsIn (w5.drewN q) (some ad) L := h4
                have g5 := drewN_below q h5
                have gb : Blk (w5.drewN q) W0.heap.size (lineCells ⟨st, ho, ep, si⟩) 26 := kb
                have gh : KeepsOthers W (w5.drewN q) := ⟨kh5.size, kh5.same⟩
                have gp : Kp (fun k => k = m + 1) w.heap.size none none W (w5.drewN q) := ⟨kp5.size, kp5.block, rfl⟩
                generalize w5.drewN q = w6 at g1 grow g3 g4 g5 gb gh gp ⊢
                clear h1 hrow h3 h4 h5 kb kh5 kp5 c0 c1 c2 c3 cS cO x1 x3 x3'
                obtain ⟨c0, c1, c2, c3⟩ := line_cells gb
                have cO := g1.cell 0 rfl
                have fO := g1.frozen 0
                have GR0 := grow
                unfold stayRow at grow
                rw [hlen, hkk] at grow
                gi_wp2_with (gi_at_builtin; refine wpListIn_append_own _ rfl _ _ 37 rfl w.heap.size 62 i0 (.agg #[.int .i64 0, .int .i64 0, .int .i64 0, .int .i64 0]) 4 32 Try.underlying37 hinf hz0 hz1 hz2 rfl (by decide) _ _ _ rfl (grow.alloc _) ⟨w6.heap.size, 0, none⟩ 1 1 [.int .i64 ho, .int .i64 ep, .int .i64 si, .int .i64 e] rfl rfl (cell_four_new _ _ _ _ _ _) (one_cells4 _ _ _ _) (by unfold maxLen; omega) (by omega) (by have := g5.size; simp; omega) ?_; intro v' w7 hown' hgrow _; obtain ⟨g', cap', rfl⟩ := ownsRow_succ hown'; obtain ⟨hv1, hv2, hr2, hk2, hb2⟩ := Boxed.appended (W := w6) g1 (by decide) grow g5.size (by omega) hown' hgrow; have hc1 := hv1.cell; have hf1 := hv1.frozen; have kpa := kp_grown (B := m + 1) GR0 (fun k hk => Below.heap_alloc _ _ _ hk) (by simp) hgrow)
                have kpb := gp.trans (kpa.trans (Kp.setCell none _ (m + 1) 0 (.slice (some ⟨g', 0, none⟩) (kk + 1 + 1) cap') rfl))
                have kpc := kpa.trans (Kp.setCell (F := fun k => k = m + 1) (N0 := w.heap.size) none _ (m + 1) 0 (.slice (some ⟨g', 0, none⟩) (kk + 1 + 1) cap') rfl)
                refine ⟨gh.trans hk2, none, kpb, ⟨_, hv2, ?_⟩, kpc.blk g3 (by omega) (.inr (by decide)), g4.kp kpc (fun hl ad' e' => by have := hEl hl ad' e'; exact ⟨by omega, this⟩), g5.trans hb2, rfl⟩
                unfold stayRow
                rw [HEND.out, addStay, if_pos ⟨hu, by rw [beq_eq_false_iff_ne] at hsq; exact hsq⟩]
                simp only [List.getLast?_concat]
                rw [if_neg (by rintro ⟨h, -⟩; rw [beq_eq_false_iff_ne] at hq1; exact hq1 h), List.length_append, hlen, hkk, flatS_snoc]
                exact hr2

              · rcases hq2 : (xtt == si) with _ | _
                · gi_wp2_with fail
                  refine Rnd.quiet_round _ rfl (by kernel_rfl) (by kernel_rfl) (by kernel_rfl) ?_
                  repeat (gi_big_quiet_step (fail))
                  refine wpQuietIn_nil ?_
                  rintro w6 ⟨q, rfl⟩
                  have g1 : Blk (w5.drewN q) (m + 1) #[(.slice (some ⟨g, 0, none⟩) (kk + 1) cap)] 37 := h1
                  have grow : stayRow (w5.drewN q) w.heap.size (.slice (some ⟨g, 0, none⟩) (kk + 1) cap) (init ++ [⟨xho, xep, xfr, xtt⟩]) := hrow
                  have g3 : Blk (w5.drewN q) w.heap.size #[.slice (some ad) n c] 24 := h3
                  have g4 : EvsIn (w5.drewN q) (some ad) L := h4
                  have g5 := drewN_below q h5
                  have gb : Blk (w5.drewN q) W0.heap.size (lineCells ⟨st, ho, ep, si⟩) 26 := kb
                  have gh : KeepsOthers W (w5.drewN q) := ⟨kh5.size, kh5.same⟩
                  have gp : Kp (fun k => k = m + 1) w.heap.size none none W (w5.drewN q) := ⟨kp5.size, kp5.block, rfl⟩
                  generalize w5.drewN q = w6 at g1 grow g3 g4 g5 gb gh gp ⊢
                  clear h1 hrow h3 h4 h5 kb kh5 kp5 c0 c1 c2 c3 cS cO x1 x3 x3'
                  obtain ⟨c0, c1, c2, c3⟩ := line_cells gb
                  have cO := g1.cell 0 rfl
                  have fO := g1.frozen 0
                  have GR0 := grow
                  unfold stayRow at grow
                  rw [hlen, hkk] at grow
                  gi_wp2_with (gi_at_builtin; refine wpListIn_append_own _ rfl _ _ 37 rfl w.heap.size 62 i0 (.agg #[.int .i64 0, .int .i64 0, .int .i64 0, .int .i64 0]) 4 32 Try.underlying37 hinf hz0 hz1 hz2 rfl (by decide) _ _ _ rfl (grow.alloc _) ⟨w6.heap.size, 0, none⟩ 1 1 [.int .i64 ho, .int .i64 ep, .int .i64 si, .int .i64 e] rfl rfl (cell_four_new _ _ _ _ _ _) (one_cells4 _ _ _ _) (by unfold maxLen; omega) (by omega) (by have := g5.size; simp; omega) ?_; intro v' w7 hown' hgrow _; obtain ⟨g', cap', rfl⟩ := ownsRow_succ hown'; obtain ⟨hv1, hv2, hr2, hk2, hb2⟩ := Boxed.appended (W := w6) g1 (by decide) grow g5.size (by omega) hown' hgrow; have hc1 := hv1.cell; have hf1 := hv1.frozen; have kpa := kp_grown (B := m + 1) GR0 (fun k hk => Below.heap_alloc _ _ _ hk) (by simp) hgrow)
                  have kpb := gp.trans (kpa.trans (Kp.setCell none _ (m + 1) 0 (.slice (some ⟨g', 0, none⟩) (kk + 1 + 1) cap') rfl))
                  have kpc := kpa.trans (Kp.setCell (F := fun k => k = m + 1) (N0 := w.heap.size) none _ (m + 1) 0 (.slice (some ⟨g', 0, none⟩) (kk + 1 + 1) cap') rfl)
                  refine ⟨gh.trans hk2, none, kpb, ⟨_, hv2, ?_⟩, kpc.blk g3 (by omega) (.inr (by decide)), g4.kp kpc (fun hl ad' e' => by have := hEl hl ad' e'; exact ⟨by omega, this⟩), g5.trans hb2, rfl⟩
                  unfold stayRow
                  rw [HEND.out, addStay, if_pos ⟨hu, by rw [beq_eq_false_iff_ne] at hsq; exact hsq⟩]
                  simp only [List.getLast?_concat]
                  rw [if_neg (by rintro ⟨-, h⟩; rw [beq_eq_false_iff_ne] at hq2; exact hq2 h), List.length_append, hlen, hkk, flatS_snoc]
                  exact hr2

                · gi_wp2_with fail
                  refine Rnd.quiet_round _ rfl (by kernel_rfl) (by kernel_rfl) (by kernel_rfl) ?_
                  repeat (gi_big_quiet_step (fail))
                  refine wpQuietIn_nil ?_
                  rintro w6 ⟨q, rfl⟩
                  have g1 : Blk (w5.drewN q) (m + 1) #[(.slice (some ⟨g, 0, none⟩) (kk + 1) cap)] 37 := h1
                  have grow : stayRow (w5.drewN q) w.heap.size (.slice (some ⟨g, 0, none⟩) (kk + 1) cap) (init ++ [⟨xho, xep, xfr, xtt⟩]) := hrow
                  have g3 : Blk (w5.drewN q) w.heap.size #[.slice (some ad) n c] 24 := h3
                  have g4 : EvsIn (w5.drewN q) (some ad) L := h4
                  have g5 := drewN_below q h5
                  have gb : Blk (w5.drewN q) W0.heap.size (lineCells ⟨st, ho, ep, si⟩) 26 := kb
                  have gh : KeepsOthers W (w5.drewN q) := ⟨kh5.size, kh5.same⟩
                  have gp : Kp (fun k => k = m + 1) w.heap.size none none W (w5.drewN q) := ⟨kp5.size, kp5.block, rfl⟩
                  generalize w5.drewN q = w6 at g1 grow g3 g4 g5 gb gh gp ⊢
                  clear h1 hrow h3 h4 h5 kb kh5 kp5 c0 c1 c2 c3 cS cO x1 x3 x3'
                  obtain ⟨c0, c1, c2, c3⟩ := line_cells gb
                  have cO := g1.cell 0 rfl
                  have fO := g1.frozen 0
                  have GR0 := grow
                  unfold stayRow at grow
                  rw [hlen, hkk] at grow
                  have y3 : w6.cell? ⟨g, kk * 4 + 3, none⟩ = some (.int .i64 xtt) := by
                    rw [grow.cellAt (kk * 4 + 3) (by omega), flatS_snoc, List.getElem?_append_right (by rw [flatS_len]; omega), flatS_len, hkk, show kk * 4 + 3 - kk * 4 = 3 by omega]
                    rfl
                  have y3' : w6.cell? ⟨g, kk * 4 + 2 + 1, none⟩ = some (.int .i64 xtt) := y3
                  have z3 := grow.frozenAt (kk * 4 + 3)
                  have z3' : w6.frozen? ⟨g, kk * 4 + 2 + 1, none⟩ = false := z3
                  obtain ⟨s1, s2⟩ := grow.stored (kk * 4 + 3) (.int .i64 e)
                  gi_wp2_with fail
                  have kpa := kp_grown (B := m + 1) GR0 (W1 := w6) (fun k hk => rfl) (Nat.le_refl _) s2
                  have hne := Blk.not_row' g1 (by decide) grow
                  refine ⟨gh.trans (KeepsOthers.setCell _ _ _), none, gp.trans kpa, ⟨_, (s2.block (m + 1) g1.lt hne).trans g1, ?_⟩, kpa.blk g3 (by omega) (.inr (by decide)), g4.kp kpa (fun hl ad' e' => by have := hEl hl ad' e'; exact ⟨by omega, this⟩), ?_, rfl⟩
                  · unfold stayRow
                    rw [HEND.out, addStay, if_pos ⟨hu, by rw [beq_eq_false_iff_ne] at hsq; exact hsq⟩]
                    simp only [List.getLast?_concat]
                    rw [if_pos (by rw [beq_iff_eq] at hq1 hq2; exact ⟨hq1, hq2⟩), List.dropLast_concat, flatS_set init xho xep xfr xtt e, hkk]
                    rw [show (init ++ [(⟨xho, xep, xfr, e⟩ : Sy)]).length = kk + 1 by simp [hkk]]
                    exact s1
                  · have hg := (grow.lt g rfl).1
                    exact g5.setCell (p := ⟨g, kk * 4 + 3, none⟩) hg _

        · gi_wp2_with fail
          refine ⟨kh5, none, kp5, ⟨v, h1, ?_⟩, h3, h4, h5, rfl⟩
          rw [HEND.out, addStay, if_neg (by rw [beq_iff_eq] at hsq; simp [hsq])]
          exact hrow

      · have he : endOf L i = 10000001 := by
          unfold endOf
          rw [hj, if_neg (by omega)]
        rw [he] at HEND
        clear he
        obtain ⟨e, hee⟩ : ∃ e : Int, e = 10000001 := ⟨_, rfl⟩
        rcases hsq : (si == (10000001 : Int)) with _ | _
        · rcases stay_forms hrow with ⟨rfl, hk⟩ | ⟨g, cap, rfl⟩
          · obtain rfl : out = [] := List.eq_nil_of_length_eq_zero hk
            gi_wp2_with fail
            refine Rnd.quiet_round _ rfl (by kernel_rfl) (by kernel_rfl) (by kernel_rfl) ?_
            repeat (gi_big_quiet_step (fail))
            refine wpQuietIn_nil ?_
            rintro w6 ⟨q, rfl⟩
            have g1 : Blk (w5.drewN q) (m + 1) #[(.slice none 0 0)] 37 := h1
            have grow : stayRow (w5.drewN q) w.heap.size (.slice none 0 0) [] := hrow
            have g3 : Blk (w5.drewN q) w.heap.size #[.slice A n c] 24 := h3
            have g4 : EvsIn (w5.drewN q) A L := h4
            have g5 := drewN_below q h5
            have gb : Blk (w5.drewN q) W0.heap.size (lineCells ⟨st, ho, ep, si⟩) 26 := kb
            have gh : KeepsOthers W (w5.drewN q) := ⟨kh5.size, kh5.same⟩
            have gp : Kp (fun k => k = m + 1) w.heap.size none none W (w5.drewN q) := ⟨kp5.size, kp5.block, rfl⟩
            generalize w5.drewN q = w6 at g1 grow g3 g4 g5 gb gh gp ⊢
            clear h1 hrow h3 h4 h5 kb kh5 kp5 c0 c1 c2 c3 cS cO
            obtain ⟨c0, c1, c2, c3⟩ := line_cells gb
            have cO := g1.cell 0 rfl
            have fO := g1.frozen 0
            have GR0 := grow
            unfold stayRow at grow
            gi_wp2_with (gi_at_builtin; refine wpListIn_append_own _ rfl _ _ 37 rfl w.heap.size 62 i0 (.agg #[.int .i64 0, .int .i64 0, .int .i64 0, .int .i64 0]) 4 32 Try.underlying37 hinf hz0 hz1 hz2 rfl (by decide) _ _ _ rfl (grow.alloc _) ⟨w6.heap.size, 0, none⟩ 1 1 [.int .i64 ho, .int .i64 ep, .int .i64 si, .int .i64 10000001] rfl rfl (cell_four_new _ _ _ _ _ _) (one_cells4 _ _ _ _) (by unfold maxLen; omega) (by omega) (by have := g5.size; simp; omega) ?_; intro v' w7 hown' hgrow _; obtain ⟨g', cap', rfl⟩ := ownsRow_succ hown'; obtain ⟨hv1, hv2, hr2, hk2, hb2⟩ := Boxed.appended (W := w6) g1 (by decide) grow g5.size (by omega) hown' hgrow; have hc1 := hv1.cell; have hf1 := hv1.frozen; have kpa := kp_grown (B := m + 1) GR0 (fun k hk => Below.heap_alloc _ _ _ hk) (by simp) hgrow)
            have kpb := gp.trans (kpa.trans (Kp.setCell none _ (m + 1) 0 (.slice (some ⟨g', 0, none⟩) (0 + 1) cap') rfl))
            have kpc := kpa.trans (Kp.setCell (F := fun k => k = m + 1) (N0 := w.heap.size) none _ (m + 1) 0 (.slice (some ⟨g', 0, none⟩) (0 + 1) cap') rfl)
            refine ⟨gh.trans hk2, none, kpb, ⟨_, hv2, ?_⟩, kpc.blk g3 (by omega) (.inr (by decide)), g4.kp kpc (fun hl ad' e' => by have := hEl hl ad' e'; exact ⟨by omega, this⟩), g5.trans hb2, rfl⟩
            unfold stayRow
            rw [HEND.out, addStay, if_pos ⟨hu, by rw [beq_eq_false_iff_ne] at hsq; exact hsq⟩]
            exact hr2

          · rcases List.eq_nil_or_concat out with rfl | ⟨init, x, hio⟩
            · rw [List.length_nil] at h1 cO hrow
              gi_wp2_with fail
              refine Rnd.quiet_round _ rfl (by kernel_rfl) (by kernel_rfl) (by kernel_rfl) ?_
              repeat (gi_big_quiet_step (fail))
              refine wpQuietIn_nil ?_
              rintro w6 ⟨q, rfl⟩
              have g1 : Blk (w5.drewN q) (m + 1) #[(.slice (some ⟨g, 0, none⟩) 0 cap)] 37 := h1
              have grow : stayRow (w5.drewN q) w.heap.size (.slice (some ⟨g, 0, none⟩) 0 cap) [] := hrow
              have g3 : Blk (w5.drewN q) w.heap.size #[.slice A n c] 24 := h3
              have g4 : EvsIn (w5.drewN q) A L := h4
              have g5 := drewN_below q h5
              have gb : Blk (w5.drewN q) W0.heap.size (lineCells ⟨st, ho, ep, si⟩) 26 := kb
              have gh : KeepsOthers W (w5.drewN q) := ⟨kh5.size, kh5.same⟩
              have gp : Kp (fun k => k = m + 1) w.heap.size none none W (w5.drewN q) := ⟨kp5.size, kp5.block, rfl⟩
              generalize w5.drewN q = w6 at g1 grow g3 g4 g5 gb gh gp ⊢
              clear h1 hrow h3 h4 h5 kb kh5 kp5 c0 c1 c2 c3 cS cO
              obtain ⟨c0, c1, c2, c3⟩ := line_cells gb
              have cO := g1.cell 0 rfl
              have fO := g1.frozen 0
              have GR0 := grow
              unfold stayRow at grow
              gi_wp2_with (gi_at_builtin; refine wpListIn_append_own _ rfl _ _ 37 rfl w.heap.size 62 i0 (.agg #[.int .i64 0, .int .i64 0, .int .i64 0, .int .i64 0]) 4 32 Try.underlying37 hinf hz0 hz1 hz2 rfl (by decide) _ _ _ rfl (grow.alloc _) ⟨w6.heap.size, 0, none⟩ 1 1 [.int .i64 ho, .int .i64 ep, .int .i64 si, .int .i64 10000001] rfl rfl (cell_four_new _ _ _ _ _ _) (one_cells4 _ _ _ _) (by unfold maxLen; omega) (by omega) (by have := g5.size; simp; omega) ?_; intro v' w7 hown' hgrow _; obtain ⟨g', cap', rfl⟩ := ownsRow_succ hown'; obtain ⟨hv1, hv2, hr2, hk2, hb2⟩ := Boxed.appended (W := w6) g1 (by decide) grow g5.size (by omega) hown' hgrow; have hc1 := hv1.cell; have hf1 := hv1.frozen; have kpa := kp_grown (B := m + 1) GR0 (fun k hk => Below.heap_alloc _ _ _ hk) (by simp) hgrow)
              have kpb := gp.trans (kpa.trans (Kp.setCell none _ (m + 1) 0 (.slice (some ⟨g', 0, none⟩) (0 + 1) cap') rfl))
              have kpc := kpa.trans (Kp.setCell (F := fun k => k = m + 1) (N0 := w.heap.size) none _ (m + 1) 0 (.slice (some ⟨g', 0, none⟩) (0 + 1) cap') rfl)
              refine ⟨gh.trans hk2, none, kpb, ⟨_, hv2, ?_⟩, kpc.blk g3 (by omega) (.inr (by decide)), g4.kp kpc (fun hl ad' e' => by have := hEl hl ad' e'; exact ⟨by omega, this⟩), g5.trans hb2, rfl⟩
              unfold stayRow
              rw [HEND.out, addStay, if_pos ⟨hu, by rw [beq_eq_false_iff_ne] at hsq; exact hsq⟩]
              exact hr2

            · rw [List.concat_eq_append] at hio
              subst hio
              obtain ⟨xho, xep, xfr, xtt⟩ := x
              have hlen : (init ++ [(⟨xho, xep, xfr, xtt⟩ : Sy)]).length = init.length + 1 := by simp
              have hrow' := hrow
              unfold stayRow at hrow'
              rw [hlen] at hrow' h1 cO hrow hplen
              have hcell : ∀ j (h : j < 4), w5.cell? ⟨g, init.length * 4 + j, none⟩ = (Sy.vs ⟨xho, xep, xfr, xtt⟩)[j]? := by
                intro j hj
                rw [hrow'.cellAt (init.length * 4 + j) (by omega), flatS_snoc, List.getElem?_append_right (by rw [flatS_len]; omega), flatS_len]
                congr 1; omega
              have x1 : w5.cell? ⟨g, init.length * 4 + 1, none⟩ = some (.int .i64 xep) := hcell 1 (by omega)
              have x3 : w5.cell? ⟨g, init.length * 4 + 3, none⟩ = some (.int .i64 xtt) := hcell 3 (by omega)
              have x3' : w5.cell? ⟨g, init.length * 4 + 2 + 1, none⟩ = some (.int .i64 xtt) := hcell 3 (by omega)
              clear hcell
              obtain ⟨kk, hkk⟩ : ∃ kk, init.length = kk := ⟨_, rfl⟩
              rw [hkk] at x1 x3 x3' h1 cO hrow' hrow hplen
              have hw3 : wrap64 ((kk : Int) + 1 - 1) = (kk : Int) := by unfold wrap64; omega
              have hw4 : IntKind.i64.wrap ((kk : Int) + 1 - 1) = (kk : Int) := by rw [IntKind.wrap_i64]; omega

              rcases hq1 : (xep == ep) with _ | _
              · gi_wp2_with fail
                refine Rnd.quiet_round _ rfl (by kernel_rfl) (by kernel_rfl) (by kernel_rfl) ?_
                repeat (gi_big_quiet_step (fail))
                refine wpQuietIn_nil ?_
                rintro w6 ⟨q, rfl⟩
                have g1 : Blk (w5.drewN q) (m + 1) #[(.slice (some ⟨g, 0, none⟩) (kk + 1) cap)] 37 := h1
                have grow : stayRow (w5.drewN q) w.heap.size (.slice (some ⟨g, 0, none⟩) (kk + 1) cap) (init ++ [⟨xho, xep, xfr, xtt⟩]) := hrow
                have g3 : Blk (w5.drewN q) w.heap.size #[.slice A n c] 24 := h3
                have g4 : EvsIn (w5.drewN q) A L := h4
                have g5 := drewN_below q h5
                have gb : Blk (w5.drewN q) W0.heap.size (lineCells ⟨st, ho, ep, si⟩) 26 := kb
                have gh : KeepsOthers W (w5.drewN q) := ⟨kh5.size, kh5.same⟩
                have gp : Kp (fun k => k = m + 1) w.heap.size none none W (w5.drewN q) := ⟨kp5.size, kp5.block, rfl⟩
                generalize w5.drewN q = w6 at g1 grow g3 g4 g5 gb gh gp ⊢
                clear h1 hrow h3 h4 h5 kb kh5 kp5 c0 c1 c2 c3 cS cO x1 x3 x3'
                obtain ⟨c0, c1, c2, c3⟩ := line_cells gb
                have cO := g1.cell 0 rfl
                have fO := g1.frozen 0
                have GR0 := grow
                unfold stayRow at grow
                rw [hlen, hkk] at grow
                gi_wp2_with (gi_at_builtin; refine wpListIn_append_own _ rfl _ _ 37 rfl w.heap.size 62 i0 (.agg #[.int .i64 0, .int .i64 0, .int .i64 0, .int .i64 0]) 4 32 Try.underlying37 hinf hz0 hz1 hz2 rfl (by decide) _ _ _ rfl (grow.alloc _) ⟨w6.heap.size, 0, none⟩ 1 1 [.int .i64 ho, .int .i64 ep, .int .i64 si, .int .i64 10000001] rfl rfl (cell_four_new _ _ _ _ _ _) (one_cells4 _ _ _ _) (by unfold maxLen; omega) (by omega) (by have := g5.size; simp; omega) ?_; intro v' w7 hown' hgrow _; obtain ⟨g', cap', rfl⟩ := ownsRow_succ hown'; obtain ⟨hv1, hv2, hr2, hk2, hb2⟩ := Boxed.appended (W := w6) g1 (by decide) grow g5.size (by omega) hown' hgrow; have hc1 := hv1.cell; have hf1 := hv1.frozen; have kpa := kp_grown (B := m + 1) GR0 (fun k hk => Below.heap_alloc _ _ _ hk) (by simp) hgrow)
                have kpb := gp.trans (kpa.trans (Kp.setCell none _ (m + 1) 0 (.slice (some ⟨g', 0, none⟩) (kk + 1 + 1) cap') rfl))
                have kpc := kpa.trans (Kp.setCell (F := fun k => k = m + 1) (N0 := w.heap.size) none _ (m + 1) 0 (.slice (some ⟨g', 0, none⟩) (kk + 1 + 1) cap') rfl)
                refine ⟨gh.trans hk2, none, kpb, ⟨_, hv2, ?_⟩, kpc.blk g3 (by omega) (.inr (by decide)), g4.kp kpc (fun hl ad' e' => by have := hEl hl ad' e'; exact ⟨by omega, this⟩), g5.trans hb2, rfl⟩
                unfold stayRow
                rw [HEND.out, addStay, if_pos ⟨hu, by rw [beq_eq_false_iff_ne] at hsq; exact hsq⟩]
                simp only [List.getLast?_concat]
                rw [if_neg (by rintro ⟨h, -⟩; rw [beq_eq_false_iff_ne] at hq1; exact hq1 h), List.length_append, hlen, hkk, flatS_snoc]
                exact hr2

              · rcases hq2 : (xtt == si) with _ | _
                · gi_wp2_with fail
                  refine Rnd.quiet_round _ rfl (by kernel_rfl) (by kernel_rfl) (by kernel_rfl) ?_
                  repeat (gi_big_quiet_step (fail))
                  refine wpQuietIn_nil ?_
                  rintro w6 ⟨q, rfl⟩
                  have g1 : Blk (w5.drewN q) (m + 1) #[(.slice (some ⟨g, 0, none⟩) (kk + 1) cap)] 37 := h1
                  have grow : stayRow (w5.drewN q) w.heap.size (.slice (some ⟨g, 0, none⟩) (kk + 1) cap) (init ++ [⟨xho, xep, xfr, xtt⟩]) := hrow
                  have g3 : Blk (w5.drewN q) w.heap.size #[.slice A n c] 24 := h3
                  have g4 : EvsIn (w5.drewN q) A L := h4
                  have g5 := drewN_below q h5
                  have gb : Blk (w5.drewN q) W0.heap.size (lineCells ⟨st, ho, ep, si⟩) 26 := kb
                  have gh : KeepsOthers W (w5.drewN q) := ⟨kh5.size, kh5.same⟩
                  have gp : Kp (fun k => k = m + 1) w.heap.size none none W (w5.drewN q) := ⟨kp5.size, kp5.block, rfl⟩
                  generalize w5.drewN q = w6 at g1 grow g3 g4 g5 gb gh gp ⊢
                  clear h1 hrow h3 h4 h5 kb kh5 kp5 c0 c1 c2 c3 cS cO x1 x3 x3'
                  obtain ⟨c0, c1, c2, c3⟩ := line_cells gb
                  have cO := g1.cell 0 rfl
                  have fO := g1.frozen 0
                  have GR0 := grow
                  unfold stayRow at grow
                  rw [hlen, hkk] at grow
                  gi_wp2_with (gi_at_builtin; refine wpListIn_append_own _ rfl _ _ 37 rfl w.heap.size 62 i0 (.agg #[.int .i64 0, .int .i64 0, .int .i64 0, .int .i64 0]) 4 32 Try.underlying37 hinf hz0 hz1 hz2 rfl (by decide) _ _ _ rfl (grow.alloc _) ⟨w6.heap.size, 0, none⟩ 1 1 [.int .i64 ho, .int .i64 ep, .int .i64 si, .int .i64 10000001] rfl rfl (cell_four_new _ _ _ _ _ _) (one_cells4 _ _ _ _) (by unfold maxLen; omega) (by omega) (by have := g5.size; simp; omega) ?_; intro v' w7 hown' hgrow _; obtain ⟨g', cap', rfl⟩ := ownsRow_succ hown'; obtain ⟨hv1, hv2, hr2, hk2, hb2⟩ := Boxed.appended (W := w6) g1 (by decide) grow g5.size (by omega) hown' hgrow; have hc1 := hv1.cell; have hf1 := hv1.frozen; have kpa := kp_grown (B := m + 1) GR0 (fun k hk => Below.heap_alloc _ _ _ hk) (by simp) hgrow)
                  have kpb := gp.trans (kpa.trans (Kp.setCell none _ (m + 1) 0 (.slice (some ⟨g', 0, none⟩) (kk + 1 + 1) cap') rfl))
                  have kpc := kpa.trans (Kp.setCell (F := fun k => k = m + 1) (N0 := w.heap.size) none _ (m + 1) 0 (.slice (some ⟨g', 0, none⟩) (kk + 1 + 1) cap') rfl)
                  refine ⟨gh.trans hk2, none, kpb, ⟨_, hv2, ?_⟩, kpc.blk g3 (by omega) (.inr (by decide)), g4.kp kpc (fun hl ad' e' => by have := hEl hl ad' e'; exact ⟨by omega, this⟩), g5.trans hb2, rfl⟩
                  unfold stayRow
                  rw [HEND.out, addStay, if_pos ⟨hu, by rw [beq_eq_false_iff_ne] at hsq; exact hsq⟩]
                  simp only [List.getLast?_concat]
                  rw [if_neg (by rintro ⟨-, h⟩; rw [beq_eq_false_iff_ne] at hq2; exact hq2 h), List.length_append, hlen, hkk, flatS_snoc]
                  exact hr2

                · gi_wp2_with fail
                  refine Rnd.quiet_round _ rfl (by kernel_rfl) (by kernel_rfl) (by kernel_rfl) ?_
                  repeat (gi_big_quiet_step (fail))
                  refine wpQuietIn_nil ?_
                  rintro w6 ⟨q, rfl⟩
                  have g1 : Blk (w5.drewN q) (m + 1) #[(.slice (some ⟨g, 0, none⟩) (kk + 1) cap)] 37 := h1
                  have grow : stayRow (w5.drewN q) w.heap.size (.slice (some ⟨g, 0, none⟩) (kk + 1) cap) (init ++ [⟨xho, xep, xfr, xtt⟩]) := hrow
                  have g3 : Blk (w5.drewN q) w.heap.size #[.slice A n c] 24 := h3
                  have g4 : EvsIn (w5.drewN q) A L := h4
                  have g5 := drewN_below q h5
                  have gb : Blk (w5.drewN q) W0.heap.size (lineCells ⟨st, ho, ep, si⟩) 26 := kb
                  have gh : KeepsOthers W (w5.drewN q) := ⟨kh5.size, kh5.same⟩
                  have gp : Kp (fun k => k = m + 1) w.heap.size none none W (w5.drewN q) := ⟨kp5.size, kp5.block, rfl⟩
                  generalize w5.drewN q = w6 at g1 grow g3 g4 g5 gb gh gp ⊢
                  clear h1 hrow h3 h4 h5 kb kh5 kp5 c0 c1 c2 c3 cS cO x1 x3 x3'
                  obtain ⟨c0, c1, c2, c3⟩ := line_cells gb
                  have cO := g1.cell 0 rfl
                  have fO := g1.frozen 0
                  have GR0 := grow
                  unfold stayRow at grow
                  rw [hlen, hkk] at grow
                  have y3 : w6.cell? ⟨g, kk * 4 + 3, none⟩ = some (.int .i64 xtt) := by
                    rw [grow.cellAt (kk * 4 + 3) (by omega), flatS_snoc, List.getElem?_append_right (by rw [flatS_len]; omega), flatS_len, hkk, show kk * 4 + 3 - kk * 4 = 3 by omega]
                    rfl
                  have y3' : w6.cell? ⟨g, kk * 4 + 2 + 1, none⟩ = some (.int .i64 xtt) := y3
                  have z3 := grow.frozenAt (kk * 4 + 3)
                  have z3' : w6.frozen? ⟨g, kk * 4 + 2 + 1, none⟩ = false := z3
                  obtain ⟨s1, s2⟩ := grow.stored (kk * 4 + 3) (.int .i64 10000001)
                  gi_wp2_with fail
                  have kpa := kp_grown (B := m + 1) GR0 (W1 := w6) (fun k hk => rfl) (Nat.le_refl _) s2
                  have hne := Blk.not_row' g1 (by decide) grow
                  refine ⟨gh.trans (KeepsOthers.setCell _ _ _), none, gp.trans kpa, ⟨_, (s2.block (m + 1) g1.lt hne).trans g1, ?_⟩, kpa.blk g3 (by omega) (.inr (by decide)), g4.kp kpa (fun hl ad' e' => by have := hEl hl ad' e'; exact ⟨by omega, this⟩), ?_, rfl⟩
                  · unfold stayRow
                    rw [HEND.out, addStay, if_pos ⟨hu, by rw [beq_eq_false_iff_ne] at hsq; exact hsq⟩]
                    simp only [List.getLast?_concat]
                    rw [if_pos (by rw [beq_iff_eq] at hq1 hq2; exact ⟨hq1, hq2⟩), List.dropLast_concat, flatS_set init xho xep xfr xtt 10000001, hkk]
                    rw [show (init ++ [(⟨xho, xep, xfr, 10000001⟩ : Sy)]).length = kk + 1 by simp [hkk]]
                    exact s1
                  · have hg := (grow.lt g rfl).1
                    exact g5.setCell (p := ⟨g, kk * 4 + 3, none⟩) hg _

        · gi_wp2_with fail
          refine ⟨kh5, none, kp5, ⟨v, h1, ?_⟩, h3, h4, h5, rfl⟩
          rw [HEND.out, addStay, if_neg (by rw [beq_iff_eq] at hsq; simp [hsq])]
          exact hrow

  case done =>
    rintro D ys r W hD rfl ⟨⟨v, h1, hrow⟩, h3, h4, h5, rfl⟩ hK
    have cO := h1.cell 0 rfl
    gi_wp2_with fail
    refine ⟨by simp, .inl ⟨_, _, rfl, run_takeDeferred hK, ?_⟩⟩
    exact ⟨.tuple #[v, .int .i64 0], by rw [results_tmp2 rfl]; rfl, v, rfl, ownsRow_putObj hrow _ hK rfl, below_putObj h5 (by omega)⟩
  case stop =>
    rintro D c' pre r W _ _ h _
    exact h.elim
end Go.Proofs.Yteilkigdlkeiaaa.Lf
