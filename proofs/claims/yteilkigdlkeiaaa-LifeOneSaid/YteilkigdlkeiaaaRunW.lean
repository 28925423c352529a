/- life.Run, by its contract. -/
import Derived.Test.YteilkigdlkeiaaaLines
import Derived.Test.YteilkigdlkeiaaaRa
import Derived.RegionIn
import Derived.Lib.MinMax
namespace Go.Proofs.Yteilkigdlkeiaaa.Lf
set_option linter.unusedVariables false
set_option linter.unusedSimpArgs false
open Go Go.RowKit
attribute [local go_sem] Oper.semAt_some wide_depth

theorem lines_in (F : Fence) (hF : F = Fence.wide) (A : Option Addr) (n c : Nat) (w : World) :
    CallsIn F 0 Try.prog 42 #[.slice A n c] w fun e w' => e = .returned (.func (.func 56) #[] #[.pointer (some ⟨w.heap.size, 0, none⟩)]) ∧ w' = w.alloc (.cells #[.slice A n c] 24) := by
  subst hF
  refine callsIn_of_wp Try.func42 rfl trivial ?_ rfl
  simp only [Try.ntmps42, List.size_toArray, List.length_cons, List.length_nil, Nat.reduceAdd, Nat.reduceSub, Array.replicate_succ, Array.replicate_zero, List.push_toArray, List.append_toArray, List.nil_append, List.cons_append]
  gi_wp2
  go_ret
  exact ⟨rfl, rfl⟩

def cntOf (p : List (Int × Ln)) : Int := match p.getLast? with | none => 0 | some x => x.1 + 1
def lastOf (p : List (Int × Ln)) : Ln := match p.getLast? with | none => zeroL | some x => x.2
theorem cntOf_snoc (p : List (Int × Ln)) (x : Int × Ln) : cntOf (p ++ [x]) = x.1 + 1 := by simp [cntOf]
theorem lastOf_snoc (p : List (Int × Ln)) (x : Int × Ln) : lastOf (p ++ [x]) = x.2 := by simp [lastOf]

/-- what life.Run returns -/
def runV (L : List Ev) : Ln × Int × Int :=
  if cntOf (items (L.take 40)) < L.length then (zeroL, cntOf (items (L.take 40)), 140) else (lastOf (items (L.take 40)), cntOf (items (L.take 40)), 0)

theorem after_idx : ∀ (es : List Ev) (i : Nat) (l : Ln), ∀ x ∈ after i l es, (i : Int) ≤ x.1 ∧ x.1 < i + es.length
  | [], i, l, x, h => by simp [after] at h
  | e :: es, i, l, x, h => by
    simp only [after] at h
    split at h
    · simp at h
    · rcases List.mem_cons.1 h with rfl | h
      · simp; omega
      · have := after_idx es (i + 1) _ x h
        simp; omega
theorem items_idx {L : List Ev} {x : Int × Ln} (h : x ∈ items L) : -1 ≤ x.1 ∧ x.1 < L.length := by
  rcases List.mem_cons.1 h with rfl | h
  · simp; omega
  · have := after_idx L 0 _ x h
    omega

theorem EvsIn.take {W : World} {A : Option Addr} {L : List Ev} (h : EvsIn W A L) (m : Nat) : EvsIn W A (L.take m) := by
  intro k hk
  have hk' : k < L.length := by simp at hk; omega
  have := h k hk'
  rw [List.getElem_take]
  exact this

theorem results_cell3 {fn : Func} {p u q : Tmp} {ty : TypeId} (h : fn.results = #[.cell p ty, .tmp u, .tmp q]) (tmps : Array Value) (P : Program) (w : World) :
    (results fn tmps).run P w = ((asAddr (tmps.getD p undef)).run P w).andThen fun a w₁ => ((loadVar ty a).run P w₁).andThen fun v w₂ => .ok (.tuple #[v, tmps.getD u undef, tmps.getD q undef]) w₂ := by
  simp only [results, h]
  simp [Sem.run_bind, Result.andThen]

set_option maxHeartbeats 4000000 in
theorem run_any (A : Option Addr) (n c : Nat) (L : List Ev) (hn : L.length = n) (hn2 : n ≤ 140737488351232) (hc : n ≤ c) (w : World) (hE : EvsIn w A L) :
    Calls Try.prog 17 #[.slice A n c] w fun e w' => e = .returned (.tuple #[(runV L).1.v, .int .i64 (runV L).2.1, .int .i64 (runV L).2.2]) ∧ Below w.heap.size w w' := by
  obtain ⟨m, hm, hmn, hm40⟩ : ∃ m : Nat, min (n : Int) 40 = (m : Int) ∧ m ≤ n ∧ L.take 40 = L.take m ∧ (L.take m).length = m := ⟨min n 40, by omega, by omega, by
    by_cases h : n ≤ 40
    · rw [show min n 40 = n by omega, List.take_of_length_le (by omega), List.take_of_length_le (by omega)]; exact ⟨rfl, hn⟩
    · rw [show min n 40 = 40 by omega]; exact ⟨rfl, by rw [List.length_take]; omega⟩⟩
  have hEm := hE.take m
  obtain ⟨hm40, hlen⟩ := hm40
  have hRV := Lib.hid (show runV L = if cntOf (items (L.take m)) < (n : Int) then (zeroL, cntOf (items (L.take m)), 140) else (lastOf (items (L.take m)), cntOf (items (L.take m)), 0) by rw [runV, hm40, hn])
  generalize runV L = rv at hRV
  clear hm40 hE
  generalize L.take m = L' at hEm hlen hRV
  clear hn
  refine callsIn_wide (n := 0) |>.1 ?_
  refine callsIn_of_wp_marks Try.func17 rfl trivial ?_ rfl
  simp only [Try.ntmps17, List.size_toArray, List.length_cons, List.length_nil, Nat.reduceAdd, Nat.reduceSub, Array.replicate_succ, Array.replicate_zero, List.push_toArray, List.append_toArray, List.nil_append, List.cons_append]
  gi_wp2_with fail
  refine ⟨trivial, (lines_in _ rfl _ _ _ _).mono ?_⟩
  rintro e w' ⟨rfl, rfl⟩
  gi_wp2_with fail
  have kR := Blk.new w (lineCells zeroL) 26
  have kN := Blk.new (w.alloc (.cells (lineCells zeroL) 26)) #[.int .i64 0] 3
  have kL := Blk.new ((w.alloc (.cells (lineCells zeroL) 26)).alloc (.cells #[.int .i64 0] 3)) (lineCells zeroL) 26
  have kC := Blk.new (((w.alloc (.cells (lineCells zeroL) 26)).alloc (.cells #[.int .i64 0] 3)).alloc (.cells (lineCells zeroL) 26)) #[.slice A m c] 24
  replace kR := ((kR.alloc (.cells #[.int .i64 0] 3)).alloc (.cells (lineCells zeroL) 26)).alloc (.cells #[.slice A m c] 24)
  replace kN := (kN.alloc (.cells (lineCells zeroL) 26)).alloc (.cells #[.slice A m c] 24)
  replace kL := kL.alloc (.cells #[.slice A m c] 24)
  have hB0 : Below w.heap.size w ((((w.alloc (.cells (lineCells zeroL) 26)).alloc (.cells #[.int .i64 0] 3)).alloc (.cells (lineCells zeroL) 26)).alloc (.cells #[.slice A m c] 24)) := by
    repeat (first | exact Below.refl _ _ | refine Below.alloc ?_ (by simp <;> omega) _)
  have hsz : ((((w.alloc (.cells (lineCells zeroL) 26)).alloc (.cells #[.int .i64 0] 3)).alloc (.cells (lineCells zeroL) 26)).alloc (.cells #[.slice A m c] 24)).heap.size = w.heap.size + 4 := by simp
  simp only [World.size_alloc] at kN kL kC
  have hl0 : lineCells zeroL = #[.int .i64 0, .int .i64 0, .int .i64 0, .int .i64 0] := rfl
  rw [hl0] at kR kN kL kC hB0 hsz
  generalize hW4 : (((w.alloc (.cells #[.int .i64 0, .int .i64 0, .int .i64 0, .int .i64 0] 26)).alloc (.cells #[.int .i64 0] 3)).alloc (.cells #[.int .i64 0, .int .i64 0, .int .i64 0, .int .i64 0] 26)).alloc (.cells #[.slice A m c] 24) = W4 at kR kN kL kC hB0 hsz
  clear hW4
  have hEl : 0 < L'.length → ∀ ad, A = some ad → ad.block < w.heap.size := fun h => hEm.lt h
  refine Ra.law (gf := 56) (lb := #[.pointer (some ⟨w.heap.size + 1 + 1 + 1, 0, none⟩)]) rfl (enters_of Try.func56 (by kernel_rfl) rfl)
    (encs := encs) (Ab := Ab (w.heap.size + 6)) (Kp := Kp (fun k => k = w.heap.size + 1 ∨ k = w.heap.size + 1 + 1) (w.heap.size + 1)) (Lt := Lt) (r0 := none) (Nx := Nx L') (S := fun xs => xs = items L') (Sp := fun pre => pre <+: items L')
    ?hit ?hAb (fun h k => h.trans k) (fun r W l o o' _ hl ho => Kp.book r W l o o' hl ho) (fun _ => rfl)
    (fun pre r W => Blk W (w.heap.size + 1) #[.int .i64 (cntOf pre)] 3 ∧ Blk W (w.heap.size + 1 + 1) (lineCells (lastOf pre)) 26 ∧ Blk W w.heap.size (lineCells zeroL) 26 ∧ Below w.heap.size w W ∧ r = none)
    (fun _ _ _ _ => False) ?hIa (fun _ _ _ _ _ h _ => h) ?hLt ?hI (fun _ => ⟨fun _ _ _ _ h => h, fun _ _ _ _ _ _ h _ _ _ => h⟩) ?h0
    (fun x b => { tmps := #[.slice A n c, undef, .pointer (some ⟨w.heap.size, 0, none⟩), .int .i64 0, .int .i64 0, .pointer (some ⟨w.heap.size + 1, 0, none⟩), .pointer (some ⟨w.heap.size + 1 + 1, 0, none⟩), .int .i64 x.1, .pointer (some ⟨b, 0, none⟩), .agg #[.int .i64 0, .int .i64 0, .int .i64 0, .int .i64 0], .slice A n c, .slice A n c, .int .i64 n, .int .i64 m, .slice A m c, .func (.func 56) #[] #[.pointer (some ⟨w.heap.size + 1 + 1 + 1, 0, none⟩)], .int .i64 x.1, x.2.v, undef, undef, undef, undef, undef, undef, undef, undef, undef, undef, undef], defers := [] })
    (fun x => .cells (lineCells x.2) 26) (fun r W o => Kp.alloc r W o) ?assign ?body ?done ?stop
  case hit =>
    intro l W1 hl hb hs
    rw [hsz] at hs
    rw [show w.heap.size + 6 = W1.heap.size by omega]
    exact lines1 _ (w.heap.size + 1) l (w.heap.size + 1 + 1 + 1) A m c L' hlen (by omega) W1 (kC.below hb (by omega)) ((hEm.below hB0 (Nat.le_refl _)).below hb (by omega)) (fun k hk => by omega) (by omega) (fun hl ad' e => by have := hEl hl ad' e; exact ⟨by omega, by omega⟩)
  case hAb =>
    intro A B hab k o _ ho hc
    exact hab.block k o ho fun _ c f e => by subst e; cases hc
  case hIa =>
    rintro pre r A B ⟨h1, h2, h3, h4, h5⟩ hab
    exact ⟨hab.blk h1 (.inl (by omega)), hab.blk h2 (.inl (by omega)), hab.blk h3 (.inl (by omega)), below_ab h4 hab (by omega), h5⟩
  case hLt =>
    intro s r A _
    exact trivial
  case hI =>
    refine ⟨?_, ?_⟩
    · rintro pre r W o ⟨h1, h2, h3, h4, h5⟩
      exact ⟨h1.alloc o, h2.alloc o, h3.alloc o, h4.alloc h4.size o, h5⟩
    · rintro pre r W l o o' ⟨h1, h2, h3, h4, h5⟩ hl ho hc
      exact ⟨h1.putObj o' ho hc, h2.putObj o' ho hc, h3.putObj o' ho hc, below_putObj h4 (by omega), h5⟩
  case h0 => exact ⟨kN, kL, kR, hB0, rfl⟩
  case assign =>
    rintro l ⟨i, ⟨st, ho, ep, si⟩⟩ W K hK
    dsimp only [encs, Ln.v] at hK ⊢
    gi_wp2
    exact hK
  case body =>
    rintro l pre r ⟨i, ⟨st, ho, ep, si⟩⟩ b W W0 hnx ⟨h1, h2, h3, h4, rfl⟩ hb hob rfl _
    have hi := items_idx (hnx.subset (show (i, (⟨st, ho, ep, si⟩ : Ln)) ∈ pre ++ [(i, ⟨st, ho, ep, si⟩)] by simp))
    obtain ⟨c0, c1, c2, c3⟩ := line_cells (t := 26) (show Blk W W0.heap.size (lineCells ⟨st, ho, ep, si⟩) _ from hob)
    have z0 := h1.cell 0 rfl
    generalize cntOf pre = oc at h1 z0
    generalize lastOf pre = ol at h2
    obtain ⟨ost, oho, oep, osi⟩ := ol
    obtain ⟨z1, z2, z3, z4⟩ := line_cells h2
    have f1 := h1.frozen 0
    have f2 := h2.frozen 0
    have f3 := h2.frozen 1
    have f4 := h2.frozen 2
    have f5 := h2.frozen 3
    dsimp only [Ln.v]
    gi_wp2_with fail
    have hmix : Try.prog.follows .mixedOrders = true := by kernel_rfl
    have hw : IntKind.i64.wrap (i + 1) = i + 1 := by rw [IntKind.wrap_i64]; omega
    gi_region_o
    all_goals (
      have g1 := ((((h1.set 0 (.int .i64 (i + 1))).other (b' := w.heap.size + 1 + 1) (by omega) 0 (.int .i64 st)).other (b' := w.heap.size + 1 + 1) (by omega) 1 (.int .i64 ho)).other (b' := w.heap.size + 1 + 1) (by omega) 2 (.int .i64 ep)).other (b' := w.heap.size + 1 + 1) (by omega) 3 (.int .i64 si)
      have g2 := ((((h2.other (b' := w.heap.size + 1) (by omega) 0 (.int .i64 (i + 1))).set 0 (.int .i64 st)).set 1 (.int .i64 ho)).set 2 (.int .i64 ep)).set 3 (.int .i64 si)
      have g3 := ((((h3.other (b' := w.heap.size + 1) (by omega) 0 (.int .i64 (i + 1))).other (b' := w.heap.size + 1 + 1) (by omega) 0 (.int .i64 st)).other (b' := w.heap.size + 1 + 1) (by omega) 1 (.int .i64 ho)).other (b' := w.heap.size + 1 + 1) (by omega) 2 (.int .i64 ep)).other (b' := w.heap.size + 1 + 1) (by omega) 3 (.int .i64 si)
      refine ⟨?_, none, ?_, by rw [cntOf_snoc]; exact g1.drew, by rw [lastOf_snoc]; exact g2.drew, g3.drew, ?_, rfl⟩
      · exact (((((KeepsOthers.setCell _ _ _).trans (KeepsOthers.setCell _ _ _)).trans (KeepsOthers.setCell _ _ _)).trans (KeepsOthers.setCell _ _ _)).trans (KeepsOthers.setCell _ _ _)).trans (KeepsOthers.drew _)
      · exact (((((Kp.setCell _ _ _ _ _ (.inl rfl)).trans (Kp.setCell _ _ _ _ _ (.inr rfl))).trans (Kp.setCell _ _ _ _ _ (.inr rfl))).trans (Kp.setCell _ _ _ _ _ (.inr rfl))).trans (Kp.setCell _ _ _ _ _ (.inr rfl))).trans (Kp.drew _ _)
      · repeat (first | exact h4 | refine Below.drew ?_ | refine Below.setCell ?_ (by simp <;> omega) _))
  case done =>
    rintro D ys r W hD rfl ⟨h1, h2, h3, h4, rfl⟩ hK
    have hc1 := h1.cell 0 rfl
    generalize cntOf (items L') = cnt at h1 hc1 hRV
    generalize lastOf (items L') = last at h2 hRV
    obtain ⟨st, ho, ep, si⟩ := last
    obtain ⟨c0, c1, c2, c3⟩ := line_cells h2
    obtain ⟨y0, y1, y2, y3⟩ := line_cells h3
    have f0 := h3.frozen 0
    have f1 := h3.frozen 1
    have f2 := h3.frozen 2
    have f3 := h3.frozen 3

    by_cases hlt : cnt < (n : Int)
    · obtain rfl : rv = (zeroL, cnt, 140) := by rw [hRV.out, if_pos hlt]
      gi_wp2_with fail
      gi_region
      all_goals (
        gi_wp2_with fail
        have q3 := ((((h3.set 0 (.int .i64 0)).set 1 (.int .i64 0)).set 2 (.int .i64 0)).set 3 (.int .i64 0)).drew
        have hK5 := ((((KeepsOthers.setCell W ⟨w.heap.size, 0, none⟩ (.int .i64 0)).trans (KeepsOthers.setCell _ ⟨w.heap.size, 1, none⟩ (.int .i64 0))).trans (KeepsOthers.setCell _ ⟨w.heap.size, 2, none⟩ (.int .i64 0))).trans (KeepsOthers.setCell _ ⟨w.heap.size, 3, none⟩ (.int .i64 0))).trans (KeepsOthers.drew _) |>.same _ _ hK rfl
        have hB5 : Below w.heap.size w _ := (((((h4.setCell (p := ⟨w.heap.size, 0, none⟩) (Nat.le_refl _) (.int .i64 0)).setCell (p := ⟨w.heap.size, 1, none⟩) (Nat.le_refl _) (.int .i64 0)).setCell (p := ⟨w.heap.size, 2, none⟩) (Nat.le_refl _) (.int .i64 0)).setCell (p := ⟨w.heap.size, 3, none⟩) (Nat.le_refl _) (.int .i64 0))).drew
        refine ⟨by simp, .inl ⟨_, _, rfl, run_takeDeferred hK5, ?_⟩⟩
        have q4 := q3.putObj (.deferred none) hK5 rfl
        obtain ⟨u0, u1, u2, u3⟩ := line_cells (st := 0) (ho := 0) (ep := 0) (si := 0) q4
        refine ⟨.tuple #[zeroL.v, .int .i64 cnt, .int .i64 140], (by rw [results_cell3 rfl]; go_simp; try rfl), rfl, below_putObj hB5 (by omega)⟩)
    · obtain rfl : rv = (⟨st, ho, ep, si⟩, cnt, 0) := by rw [hRV.out, if_neg hlt]
      gi_wp2_with fail
      gi_region
      all_goals (
        gi_wp2_with fail
        have q3 := ((((h3.set 0 (.int .i64 st)).set 1 (.int .i64 ho)).set 2 (.int .i64 ep)).set 3 (.int .i64 si)).drew
        have hK5 := ((((KeepsOthers.setCell W ⟨w.heap.size, 0, none⟩ (.int .i64 st)).trans (KeepsOthers.setCell _ ⟨w.heap.size, 1, none⟩ (.int .i64 ho))).trans (KeepsOthers.setCell _ ⟨w.heap.size, 2, none⟩ (.int .i64 ep))).trans (KeepsOthers.setCell _ ⟨w.heap.size, 3, none⟩ (.int .i64 si))).trans (KeepsOthers.drew _) |>.same _ _ hK rfl
        have hB5 : Below w.heap.size w _ := (((((h4.setCell (p := ⟨w.heap.size, 0, none⟩) (Nat.le_refl _) (.int .i64 st)).setCell (p := ⟨w.heap.size, 1, none⟩) (Nat.le_refl _) (.int .i64 ho)).setCell (p := ⟨w.heap.size, 2, none⟩) (Nat.le_refl _) (.int .i64 ep)).setCell (p := ⟨w.heap.size, 3, none⟩) (Nat.le_refl _) (.int .i64 si))).drew
        refine ⟨by simp, .inl ⟨_, _, rfl, run_takeDeferred hK5, ?_⟩⟩
        have q4 := q3.putObj (.deferred none) hK5 rfl
        obtain ⟨u0, u1, u2, u3⟩ := line_cells (st := st) (ho := ho) (ep := ep) (si := si) q4
        refine ⟨.tuple #[.agg #[.int .i64 st, .int .i64 ho, .int .i64 ep, .int .i64 si], .int .i64 cnt, .int .i64 0], (by rw [results_cell3 rfl]; go_simp; try rfl), rfl, below_putObj hB5 (by omega)⟩)
  case stop =>
    rintro D c' pre r W _ _ h _
    exact h.elim
end Go.Proofs.Yteilkigdlkeiaaa.Lf
