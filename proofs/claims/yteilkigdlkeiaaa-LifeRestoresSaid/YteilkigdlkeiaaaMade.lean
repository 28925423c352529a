/- dialtoneref14.Made, by its contract: it returns a life of at most 16 events. -/
import Derived.Test.YteilkigdlkeiaaaG9
import Derived.Test.YteilkigdlkeiaaaG3
import Derived.Test.YteilkigdlkeiaaaG5
import Derived.Deep.RegionHeld
import Derived.Maps.AppendAt
import Derived.OwnWalk
import Derived.RangeFuncBox
namespace Go.Proofs.Yteilkigdlkeiaaa.Lf
set_option linter.unusedVariables false
set_option linter.unusedSimpArgs false
open Go Go.RowKit

def Ev.vs (e : Ev) : List Value := [.int .i64 e.k, .int .i64 e.a, .int .i64 e.h]
def flatE (l : List Ev) : List Value := l.flatMap Ev.vs
theorem flatE_snoc (l : List Ev) (e : Ev) : flatE (l ++ [e]) = flatE l ++ e.vs := by simp [flatE]
theorem flatE_len : ∀ l : List Ev, (flatE l).length = l.length * 3
  | [] => rfl
  | s :: l => by have := flatE_len l; simp only [flatE, List.flatMap_cons, List.length_append, List.length_cons] at *; rw [this]; simp [Ev.vs]; omega

theorem ok_snoc : ∀ (es : List Ev) (l : Ln) (e : Ev) (n : Ln), okFrom l es = true → step (lineFrom l es) e = some n → okFrom l (es ++ [e]) = true ∧ lineFrom l (es ++ [e]) = n
  | [], l, e, n, h, hs => by
    simp only [lineFrom] at hs
    simp [okFrom, lineFrom, hs]
  | x :: es, l, e, n, h, hs => by
    simp only [okFrom, lineFrom, List.cons_append] at h hs ⊢
    rcases hx : step l x with _ | m
    · rw [hx] at h; cases h
    · rw [hx] at h hs
      exact ok_snoc es m e n h hs

theorem Blk.not_row {W : World} {B : Nat} {c : Array Value} {t e : TypeId} (h : Blk W B c t) (hte : t ≠ e) {base size k : Nat} {v : Value} {xs : List Value} (hr : W.ownsRow base e size v k xs) : some B ≠ v.ownBlock := by
  rcases hr.2 with ⟨rfl, _⟩ | ⟨g, cap, cur, rfl, _, hgb, _⟩
  · simp [Value.ownBlock]
  · intro e'
    obtain rfl : B = g := by simpa [Value.ownBlock] using e'
    have := (show W.heap[B]? = _ from h).symm.trans hgb
    simp at this
    exact hte this.2
theorem Blk.grown {W W' : World} {row : Option Nat} {B : Nat} {c : Array Value} {t : TypeId} (h : Blk W B c t) (hg : W.grownBy W' row) (hne : some B ≠ row) : Blk W' B c t := (hg.block B h.lt hne).trans h
theorem row_below {W W' : World} {base : Nat} {e : TypeId} {size n : Nat} {v : Value} {xs : List Value} (h : W.ownsRow base e size v n xs) (hb : Below W.heap.size W W') : W'.ownsRow base e size v n xs :=
  h.kept (row := none) ⟨hb.os, hb.tape, hb.output, hb.size, fun k hk _ => hb.block k hk⟩ (by
    rcases h.2 with ⟨rfl, _⟩ | ⟨g, cap, cur, rfl, _, _⟩
    · exact .inl rfl
    · exact .inr (by simp [Value.ownBlock]))

theorem lt_alloc' (W : World) (o : Obj) : W.heap.size < (W.alloc o).heap.size := by simp

theorem grownBy_setAt (W : World) (b i : Nat) (u : Value) : W.grownBy (W.setCell ⟨b, i, none⟩ u) (some b) :=
  ⟨rfl, rfl, rfl, by simp [World.setCell], fun k _ hk => by
    simp only [World.setCell]
    rw [Array.getElem?_modify, if_neg (fun e : b = k => hk (by rw [e]))]⟩

/-- what holds all along -/
structure MadeG (w : World) (b3 : Nat) (line : Ln) (v : Value) (es : List Ev) (W : World) : Prop where
  bel : Below w.heap.size w W
  bL : Blk W b3 (lineCells line) 26
  row : W.ownsRow w.heap.size 54 3 v es.length (flatE es)
theorem MadeG.on {w : World} {b3 : Nat} {line : Ln} {v : Value} {es : List Ev} {W W' : World} (h : MadeG w b3 line v es W) (hB : Below W.heap.size W W') : MadeG w b3 line v es W' :=
  ⟨h.bel.trans (hB.mono h.bel.size), h.bL.below hB h.bL.lt, row_below h.row hB⟩
theorem MadeG.drew {w : World} {b3 : Nat} {line : Ln} {v : Value} {es : List Ev} {W : World} (h : MadeG w b3 line v es W) : MadeG w b3 line v es W.drew := h.on (Below.refl _ _).drew
theorem MadeG.alloc {w : World} {b3 : Nat} {line : Ln} {v : Value} {es : List Ev} {W : World} (h : MadeG w b3 line v es W) (o : Obj) : MadeG w b3 line v es (W.alloc o) := h.on ((Below.refl _ _).alloc (Nat.le_refl _) o)

theorem MadeG.set {w : World} {b3 : Nat} {line : Ln} {v : Value} {es : List Ev} {W : World} {m : Nat} (hv : ∀ k, v.ownBlock = some k → k < m) (h3 : b3 < m) (hw : w.heap.size ≤ b3) (h : MadeG w b3 line v es W) {b : Nat} (hb : m ≤ b) (i : Nat) (u : Value) : MadeG w b3 line v es (W.setCell ⟨b, i, none⟩ u) := by
  have hne : v.ownBlock ≠ some b := fun e => by have := hv b e; omega
  refine ⟨h.bel.setCell (p := ⟨b, i, none⟩) (by show w.heap.size ≤ b; omega) u, h.bL.other (by omega) i u, h.row.kept (row := some b) ⟨rfl, rfl, rfl, by simp [World.setCell], fun k _ hk => ?_⟩ (.inr hne)⟩
  simp only [World.setCell]
  rw [Array.getElem?_modify, if_neg (fun e : b = k => hk (by rw [e]))]

theorem MadeG.line {w : World} {b3 : Nat} {line : Ln} {v : Value} {es : List Ev} {W : World} (h : MadeG w b3 line v es W) (hw : w.heap.size ≤ b3) (a b c d : Int) :
    MadeG w b3 ⟨a, b, c, d⟩ v es ((((W.setCell ⟨b3, 0, none⟩ (.int .i64 a)).setCell ⟨b3, 1, none⟩ (.int .i64 b)).setCell ⟨b3, 2, none⟩ (.int .i64 c)).setCell ⟨b3, 3, none⟩ (.int .i64 d)) := by
  have q1 := h.bL.set 0 (.int .i64 a)
  have q2 := q1.set 1 (.int .i64 b)
  have q3 := q2.set 2 (.int .i64 c)
  have q4 := q3.set 3 (.int .i64 d)
  refine ⟨(((h.bel.setCell (p := ⟨b3, 0, none⟩) hw _).setCell (p := ⟨b3, 1, none⟩) hw _).setCell (p := ⟨b3, 2, none⟩) hw _).setCell (p := ⟨b3, 3, none⟩) hw _, q4, ?_⟩
  have r1 := h.row.kept (grownBy_setAt W b3 0 (.int .i64 a)) (.inr (h.bL.not_row (by decide) h.row).symm)
  have r2 := r1.kept (grownBy_setAt _ b3 1 (.int .i64 b)) (.inr (q1.not_row (by decide) r1).symm)
  have r3 := r2.kept (grownBy_setAt _ b3 2 (.int .i64 c)) (.inr (q2.not_row (by decide) r2).symm)
  exact r3.kept (grownBy_setAt _ b3 3 (.int .i64 d)) (.inr (q3.not_row (by decide) r3).symm)

theorem one_cells (x y z : Int) : ∀ u ∈ [Value.int .i64 x, .int .i64 y, .int .i64 z], u.oneCell' = true := by
  intro u hu
  simp at hu
  rcases hu with rfl | rfl | rfl <;> rfl
theorem cell_three_new (w : World) (x y z : Value) (t : TypeId) : ∀ j u, [x, y, z][j]? = some u → (w.alloc (.cells #[x, y, z] t)).cell? ((⟨w.heap.size, 0, none⟩ : Addr).add j) = some u := by
  intro j u hj
  have b := Blk.new w #[x, y, z] t
  have e : (⟨w.heap.size, 0, none⟩ : Addr).add j = ⟨w.heap.size, j, none⟩ := by rw [Addr.add_lit]; simp
  rw [e]
  exact b.cell j (by simpa using hj)

theorem info_event : (Try.prog.info? 54).map (fun i => (i.zero, i.size, i.bytes)) = some (some (.agg #[.int .i64 0, .int .i64 0, .int .i64 0]), 3, 24) := by kernel_rfl

theorem efacts {W : World} {b : Nat} {t : TypeId} {k a h' : Int} (h : Blk W b #[.int .i64 k, .int .i64 a, .int .i64 h'] t) :
    W.cell? ⟨b, 0, none⟩ = some (.int .i64 k) ∧ W.cell? ⟨b, 1, none⟩ = some (.int .i64 a) ∧ W.cell? ⟨b, 2, none⟩ = some (.int .i64 h') ∧
    W.frozen? ⟨b, 0, none⟩ = false ∧ W.frozen? ⟨b, 1, none⟩ = false ∧ W.frozen? ⟨b, 2, none⟩ = false :=
  ⟨h.cell 0 rfl, h.cell 1 rfl, h.cell 2 rfl, h.frozen 0, h.frozen 1, h.frozen 2⟩

set_option maxHeartbeats 8000000 in
set_option maxRecDepth 100000 in
theorem made_any (A : Option Addr) (n c : Nat) (X : List Ev) (hn : X.length = n) (hn2 : n ≤ 140737488351232) (hX : ∀ x ∈ X, I64 x.k ∧ I64 x.a ∧ I64 x.h) (w : World) (hE : EvsIn w A X) :
    Calls Try.prog 14 #[.slice A n c] w fun e w' => ∃ (v : Value) (es : List Ev), e = .returned v ∧ w'.ownsRow w.heap.size 54 3 v es.length (flatE es) ∧ okFrom firstL es = true ∧ es.length ≤ 16 ∧ Below w.heap.size w w' := by
  have C1 := Lib.hid first_any
  have C2 := Lib.hid (fun (l : Ln) (x : Ev) (h : I64 x.k ∧ I64 x.a ∧ I64 x.h) (w : World) => rafter_any l x w h.1 h.2.1 h.2.2)
  have C3 := Lib.hid rstep_any
  have HE := Lib.hid hE
  have HX := Lib.hid hX
  obtain ⟨i0, hi, hz0, hz1, hz2⟩ := info_parts info_event
  clear hE hX
  go_enter Try.func14, Try.ntmps14
  go_wp2_with fail
  refine (C1.out _).mono ?_
  rintro e w1 ⟨rfl, hw1⟩
  dsimp only [Ln.v, firstL]
  have hs1 := hw1.size
  have hG0 : MadeG w w1.heap.size firstL (.slice none 0 0) [] (w1.alloc (.cells #[.int .i64 0, .int .i64 (-1), .int .i64 0, .int .i64 0] 26)) := ⟨hw1.alloc hw1.size _, Blk.new w1 _ _, World.ownsRow_nil _ _ _ _⟩
  go_wp2_with fail
  go_loopw [4, 5] (fun s4 i wr => ∃ (v : Value) (k : Nat) (line : Ln) (es : List Ev), s4 = v ∧ i = .int .i64 k ∧ k ≤ n ∧ k ≤ 16 ∧ es.length ≤ k ∧ okFrom firstL es = true ∧ lineFrom firstL es = line ∧ MadeG w w1.heap.size line v es wr) (fun _ i _ => n - (intOf i).toNat)
  case atStart => exact ⟨_, 0, firstL, [], rfl, rfl, by omega, by omega, Nat.le_refl _, rfl, rfl, hG0⟩
  case round =>
    obtain ⟨v, k, ⟨st, ho, ep, si⟩, es, hv, rfl, hkn, hk16, hek, hok, hline, hG⟩ := hrel
    replace hv := hv.symm
    subst hv
    have HOK := Lib.hid hok
    have HLN := Lib.hid hline
    clear hok hline
    by_cases h1 : k < n
    · by_cases h2 : k < 16
      · have hk' : k < X.length := by omega
        obtain ⟨ad, rfl, d0, d1, d2⟩ := HE.out k hk'
        have hx := HX.out X[k] (List.getElem_mem hk')
        generalize hxe : X[k] = x at d0 d1 d2 hx
        clear hxe
        obtain ⟨x0, x1, x2⟩ := x
        have C2' := Lib.hid (show ∀ w, Calls Try.prog 40 #[.agg #[.int .i64 st, .int .i64 ho, .int .i64 ep, .int .i64 si], .agg #[.int .i64 x0, .int .i64 x1, .int .i64 x2]] w fun e w' => ∃ ek ea eh : Int, e = .returned (.agg #[.int .i64 ek, .int .i64 ea, .int .i64 eh]) ∧ Below w.heap.size w w' from fun w => (C2.out ⟨st, ho, ep, si⟩ ⟨x0, x1, x2⟩ hx w).mono fun e w' ⟨ev, h1, h2⟩ => ⟨ev.k, ev.a, ev.h, h1, h2⟩)
        clear hx
        have D : ∀ W, MadeG w w1.heap.size ⟨st, ho, ep, si⟩ v es W → W.cell? ⟨w1.heap.size, 0, none⟩ = some (.int .i64 st) ∧ W.cell? ⟨w1.heap.size, 1, none⟩ = some (.int .i64 ho) ∧ W.cell? ⟨w1.heap.size, 2, none⟩ = some (.int .i64 ep) ∧ W.cell? ⟨w1.heap.size, 3, none⟩ = some (.int .i64 si) ∧
            W.cell? (ad.add (k * 3)) = some (.int .i64 x0) ∧ W.cell? ⟨(ad.add (k * 3)).block, (ad.add (k * 3)).off + 1, none⟩ = some (.int .i64 x1) ∧ W.cell? ⟨(ad.add (k * 3)).block, (ad.add (k * 3)).off + 2, none⟩ = some (.int .i64 x2) ∧ MadeG w w1.heap.size ⟨st, ho, ep, si⟩ v es W := fun W h =>
          ⟨h.bL.cell 0 rfl, h.bL.cell 1 rfl, h.bL.cell 2 rfl, h.bL.cell 3 rfl, (h.bel.cell (block_lt_of_cell d0)).trans d0, (h.bel.cell (block_lt_of_cell d1)).trans d1, (h.bel.cell (block_lt_of_cell d2)).trans d2, h⟩
        have HD := Lib.hid D
        have hvb : ∀ k, v.ownBlock = some k → k < wr.heap.size := fun k e => (hG.row.lt k e).2
        have hb3 := hG.bL.lt
        clear D d0 d1 d2
        go_wp2_with fail
        have hmix : Try.prog.follows .mixedOrders = true := by kernel_rfl
        go_region_held (fun W => W.cell? ⟨w1.heap.size, 0, none⟩ = some (.int .i64 st) ∧ W.cell? ⟨w1.heap.size, 1, none⟩ = some (.int .i64 ho) ∧ W.cell? ⟨w1.heap.size, 2, none⟩ = some (.int .i64 ep) ∧ W.cell? ⟨w1.heap.size, 3, none⟩ = some (.int .i64 si) ∧
            W.cell? (ad.add (k * 3)) = some (.int .i64 x0) ∧ W.cell? ⟨(ad.add (k * 3)).block, (ad.add (k * 3)).off + 1, none⟩ = some (.int .i64 x1) ∧ W.cell? ⟨(ad.add (k * 3)).block, (ad.add (k * 3)).off + 2, none⟩ = some (.int .i64 x2) ∧ MadeG w w1.heap.size ⟨st, ho, ep, si⟩ v es W)
          ((refine HD.out _ ?_; repeat (first | assumption | exact (And.right (And.right (And.right (And.right (And.right (And.right (And.right (by assumption)))))))) | refine MadeG.drew ?_ | refine MadeG.alloc ?_ _ | refine MadeG.set hvb hb3 hs1 ?_ (by omega) _ _)))
          (first | (go_at_call 40; refine (C2'.out _).mono ?_; rintro e w3 ⟨ek, ea, eh, rfl, hB3⟩; have G3 := MadeG.on (w := w) (b3 := w1.heap.size) (line := ⟨st, ho, ep, si⟩) (v := v) (es := es) (And.right (And.right (And.right (And.right (And.right (And.right (And.right (by assumption)))))))) hB3; have s3 : wr.heap.size ≤ w3.heap.size := (by have := hB3.size; simp at this; omega); (try (with_reducible have k4 := (Blk.new _ #[.int .i64 0, .int .i64 0, .int .i64 0] 54).below hB3 (lt_alloc' _ _))); (try (with_reducible have k4 := (Blk.new _ #[.int .i64 0, .int .i64 0, .int .i64 0] 54).drew.below hB3 (lt_alloc' _ _))); (try simp only [World.size_alloc, World.size_drew] at k4); (try (have kB := k4; replace k4 := efacts k4; revert k4; rintro ⟨z0, z1, z2, y0, y1, y2⟩))))
        · have G6 := G3.alloc (.cells #[.int .i64 ek, .int .i64 ea, .int .i64 eh] 54)
          have k6 := Blk.new w3 #[.int .i64 ek, .int .i64 ea, .int .i64 eh] 54
          generalize w3.alloc (.cells #[.int .i64 ek, .int .i64 ea, .int .i64 eh] 54) = W6 at G6 k6 ⊢
          have h6 : wr.heap.size ≤ w3.heap.size := s3
          generalize w3.heap.size = b6 at k6 h6 ⊢
          clear s3 hB3
          clear HD hG G3
          obtain ⟨r0, r1, r2, r3⟩ := line_cells G6.bL
          obtain ⟨e0, e1, e2, -, -, -⟩ := efacts k6
          go_wp2_with fail
          refine (C3.out ⟨st, ho, ep, si⟩ ⟨ek, ea, eh⟩ _).mono ?_
          rintro e w7 ⟨rfl, hB7⟩
          have hne6 : b6 ≠ w1.heap.size := by omega
          rcases hs : step ⟨st, ho, ep, si⟩ ⟨ek, ea, eh⟩ with _ | ⟨nst, nho, nep, nsi⟩
          · have G7 := (G6.on hB7).alloc (.cells #[.int .i64 0, .int .i64 0, .int .i64 0, .int .i64 0] 26)
            clear G6 k6 hs r0 r1 r2 r3 e0 e1 e2 hB7
            dsimp only [stepV, zeroL, Ln.v]
            go_wp2
            go_roundw
            case rel => exact ⟨v, k + 1, ⟨st, ho, ep, si⟩, es, rfl, by go_num, by omega, by omega, by omega, HOK.out, HLN.out, G7⟩
            case measure => simp [intOf]; omega
          · have hsn := ok_snoc es firstL ⟨ek, ea, eh⟩ ⟨nst, nho, nep, nsi⟩ HOK.out (by rw [HLN.out]; exact hs)
            have HSN := Lib.hid hsn
            have G7 := (G6.on hB7).alloc (.cells #[.int .i64 nst, .int .i64 nho, .int .i64 nep, .int .i64 nsi] 26)
            have k7 := (k6.below hB7 k6.lt).alloc (.cells #[.int .i64 nst, .int .i64 nho, .int .i64 nep, .int .i64 nsi] 26)
            clear G6 k6 hs hsn r0 r1 r2 r3 e0 e1 e2 hB7
            dsimp only [stepV, Ln.v]
            obtain ⟨r0, r1, r2, r3⟩ := line_cells G7.bL
            have f0 := G7.bL.frozen 0
            have f1 := G7.bL.frozen 1
            have f2 := G7.bL.frozen 2
            have f3 := G7.bL.frozen 3
            go_upto_region 10 with fail
            have G8 := G7.line hs1 nst nho nep nsi
            have k8 := (((k7.other (b' := w1.heap.size) hne6 0 (.int .i64 nst)).other (b' := w1.heap.size) hne6 1 (.int .i64 nho)).other (b' := w1.heap.size) hne6 2 (.int .i64 nep)).other (b' := w1.heap.size) hne6 3 (.int .i64 nsi)
            generalize ((((w7.alloc (.cells #[.int .i64 nst, .int .i64 nho, .int .i64 nep, .int .i64 nsi] 26)).setCell ⟨w1.heap.size, 0, none⟩ (.int .i64 nst)).setCell ⟨w1.heap.size, 1, none⟩ (.int .i64 nho)).setCell ⟨w1.heap.size, 2, none⟩ (.int .i64 nep)).setCell ⟨w1.heap.size, 3, none⟩ (.int .i64 nsi) = W10 at G8 k8 ⊢
            clear G7 k7 r0 r1 r2 r3 f0 f1 f2 f3
            obtain ⟨e0, e1, e2, -, -, -⟩ := efacts k8
            have hrow := G8.row
            go_wp2_with (at_builtin; refine wpList_append_own _ rfl _ _ 24 rfl w.heap.size 54 i0 (.agg #[.int .i64 0, .int .i64 0, .int .i64 0]) 3 24 Try.underlying24 hi hz0 hz1 hz2 rfl (by decide) _ _ _ rfl (hrow.alloc _) ⟨W10.heap.size, 0, none⟩ 1 1 [.int .i64 ek, .int .i64 ea, .int .i64 eh] rfl rfl (cell_three_new _ _ _ _ _) (one_cells _ _ _) (by unfold maxLen; omega) (by omega) (by have := G8.bel.size; simp; omega) ?_; intro v' w9 hown' hgrow _; have hBL := (G8.bL.alloc _).grown hgrow (G8.bL.not_row (by decide) hrow); have hB9 := ((G8.bel.alloc (G8.bel.size) _).grown hgrow (by have := G8.bel.size; simp; omega) (fun k e => (hrow.lt k e).1)))
            go_roundw
            case rel => exact ⟨v', k + 1, ⟨nst, nho, nep, nsi⟩, es ++ [⟨ek, ea, eh⟩], rfl, by go_num, by omega, by omega, by simp; omega, HSN.out.1, HSN.out.2, ⟨hB9, hBL, by rw [flatE_snoc, List.length_append]; exact hown'⟩⟩
            case measure => simp [intOf]; omega
        · have G6 := MadeG.set hvb hb3 hs1 (MadeG.set hvb hb3 hs1 (MadeG.set hvb hb3 hs1 G3 (b := wr.heap.size) (Nat.le_refl _) 0 (.int .i64 ek)) (b := wr.heap.size) (Nat.le_refl _) 1 (.int .i64 ea)) (b := wr.heap.size) (Nat.le_refl _) 2 (.int .i64 eh)
          have k6 := ((kB.set 0 (.int .i64 ek)).set 1 (.int .i64 ea)).set 2 (.int .i64 eh)
          generalize ((w3.setCell ⟨wr.heap.size, 0, none⟩ (.int .i64 ek)).setCell ⟨wr.heap.size, 1, none⟩ (.int .i64 ea)).setCell ⟨wr.heap.size, 2, none⟩ (.int .i64 eh) = W6 at G6 k6 ⊢
          have h6 : wr.heap.size ≤ wr.heap.size := Nat.le_refl _
          obtain ⟨b6, hb6⟩ : ∃ b, wr.heap.size = b := ⟨_, rfl⟩
          rw [hb6] at k6 ⊢
          clear s3 hB3
          clear HD hG G3
          obtain ⟨r0, r1, r2, r3⟩ := line_cells G6.bL
          obtain ⟨e0, e1, e2, -, -, -⟩ := efacts k6
          go_wp2_with fail
          refine (C3.out ⟨st, ho, ep, si⟩ ⟨ek, ea, eh⟩ _).mono ?_
          rintro e w7 ⟨rfl, hB7⟩
          have hne6 : b6 ≠ w1.heap.size := by omega
          rcases hs : step ⟨st, ho, ep, si⟩ ⟨ek, ea, eh⟩ with _ | ⟨nst, nho, nep, nsi⟩
          · have G7 := (G6.on hB7).alloc (.cells #[.int .i64 0, .int .i64 0, .int .i64 0, .int .i64 0] 26)
            clear G6 k6 hs r0 r1 r2 r3 e0 e1 e2 hB7
            dsimp only [stepV, zeroL, Ln.v]
            go_wp2
            go_roundw
            case rel => exact ⟨v, k + 1, ⟨st, ho, ep, si⟩, es, rfl, by go_num, by omega, by omega, by omega, HOK.out, HLN.out, G7⟩
            case measure => simp [intOf]; omega
          · have hsn := ok_snoc es firstL ⟨ek, ea, eh⟩ ⟨nst, nho, nep, nsi⟩ HOK.out (by rw [HLN.out]; exact hs)
            have HSN := Lib.hid hsn
            have G7 := (G6.on hB7).alloc (.cells #[.int .i64 nst, .int .i64 nho, .int .i64 nep, .int .i64 nsi] 26)
            have k7 := (k6.below hB7 k6.lt).alloc (.cells #[.int .i64 nst, .int .i64 nho, .int .i64 nep, .int .i64 nsi] 26)
            clear G6 k6 hs hsn r0 r1 r2 r3 e0 e1 e2 hB7
            dsimp only [stepV, Ln.v]
            obtain ⟨r0, r1, r2, r3⟩ := line_cells G7.bL
            have f0 := G7.bL.frozen 0
            have f1 := G7.bL.frozen 1
            have f2 := G7.bL.frozen 2
            have f3 := G7.bL.frozen 3
            go_upto_region 10 with fail
            have G8 := G7.line hs1 nst nho nep nsi
            have k8 := (((k7.other (b' := w1.heap.size) hne6 0 (.int .i64 nst)).other (b' := w1.heap.size) hne6 1 (.int .i64 nho)).other (b' := w1.heap.size) hne6 2 (.int .i64 nep)).other (b' := w1.heap.size) hne6 3 (.int .i64 nsi)
            generalize ((((w7.alloc (.cells #[.int .i64 nst, .int .i64 nho, .int .i64 nep, .int .i64 nsi] 26)).setCell ⟨w1.heap.size, 0, none⟩ (.int .i64 nst)).setCell ⟨w1.heap.size, 1, none⟩ (.int .i64 nho)).setCell ⟨w1.heap.size, 2, none⟩ (.int .i64 nep)).setCell ⟨w1.heap.size, 3, none⟩ (.int .i64 nsi) = W10 at G8 k8 ⊢
            clear G7 k7 r0 r1 r2 r3 f0 f1 f2 f3
            obtain ⟨e0, e1, e2, -, -, -⟩ := efacts k8
            have hrow := G8.row
            go_wp2_with (at_builtin; refine wpList_append_own _ rfl _ _ 24 rfl w.heap.size 54 i0 (.agg #[.int .i64 0, .int .i64 0, .int .i64 0]) 3 24 Try.underlying24 hi hz0 hz1 hz2 rfl (by decide) _ _ _ rfl (hrow.alloc _) ⟨W10.heap.size, 0, none⟩ 1 1 [.int .i64 ek, .int .i64 ea, .int .i64 eh] rfl rfl (cell_three_new _ _ _ _ _) (one_cells _ _ _) (by unfold maxLen; omega) (by omega) (by have := G8.bel.size; simp; omega) ?_; intro v' w9 hown' hgrow _; have hBL := (G8.bL.alloc _).grown hgrow (G8.bL.not_row (by decide) hrow); have hB9 := ((G8.bel.alloc (G8.bel.size) _).grown hgrow (by have := G8.bel.size; simp; omega) (fun k e => (hrow.lt k e).1)))
            go_roundw
            case rel => exact ⟨v', k + 1, ⟨nst, nho, nep, nsi⟩, es ++ [⟨ek, ea, eh⟩], rfl, by go_num, by omega, by omega, by simp; omega, HSN.out.1, HSN.out.2, ⟨hB9, hBL, by rw [flatE_snoc, List.length_append]; exact hown'⟩⟩
            case measure => simp [intOf]; omega
      · have h3 : k = 16 := by omega
        subst h3
        go_wp2_with fail
        go_ret
        exact ⟨v, es, rfl, hG.row, HOK.out, by omega, hG.bel⟩
    · obtain rfl : k = n := by omega
      go_wp2_with fail
      go_ret
      exact ⟨v, es, rfl, hG.row, HOK.out, by omega, hG.bel⟩
end Go.Proofs.Yteilkigdlkeiaaa.Lf
