/- life.at, by its contract. life.At, life.Keep, life.Fate, by their contracts. -/
import Derived.Test.YteilkigdlkeiaaaG5
import Derived.Deep.RegionWith
import Derived.Deep.RegionHeld
import Derived.Laws.ResultCell
namespace Go.Proofs.Yteilkigdlkeiaaa.Lf
set_option linter.unusedVariables false
set_option linter.unusedSimpArgs false
open Go Go.RowKit

theorem getD_lt {α : Type} {l : List α} {i : Nat} (d : α) (h : i < l.length) : l.getD i d = l[i] := by simp [List.getD, List.getElem?_eq_getElem h]

theorem zfacts {W : World} {b : Nat} {t : TypeId} (h : Blk W b #[.int .i64 0, .int .i64 0, .int .i64 0, .int .i64 0] t) :
    W.cell? ⟨b, 0, none⟩ = some (.int .i64 0) ∧ W.cell? ⟨b, 1, none⟩ = some (.int .i64 0) ∧ W.cell? ⟨b, 2, none⟩ = some (.int .i64 0) ∧ W.cell? ⟨b, 3, none⟩ = some (.int .i64 0) ∧
    W.frozen? ⟨b, 0, none⟩ = false ∧ W.frozen? ⟨b, 1, none⟩ = false ∧ W.frozen? ⟨b, 2, none⟩ = false ∧ W.frozen? ⟨b, 3, none⟩ = false :=
  ⟨h.cell 0 rfl, h.cell 1 rfl, h.cell 2 rfl, h.cell 3 rfl, h.frozen 0, h.frozen 1, h.frozen 2, h.frozen 3⟩
theorem World.lt_alloc (W : World) (o : Obj) : W.heap.size < (W.alloc o).heap.size := by simp

/-- what holds in life.at all along -/
structure AtG (w : World) (A : Option Addr) (n c : Nat) (L : List Ev) (t : Int) (W : World) : Prop where
  bel : Below w.heap.size w W
  bS : Blk W w.heap.size #[.slice A n c] 24
  bT : Blk W (w.heap.size + 1) #[.int .i64 t] 3
  bR : Blk W (w.heap.size + 1 + 1) #[.int .i64 0, .int .i64 0, .int .i64 0, .int .i64 0] 26
  ev : EvsIn W A L
theorem AtG.on {w : World} {A : Option Addr} {n c : Nat} {L : List Ev} {t : Int} {W W' : World} (h : AtG w A n c L t W) (hB : Below W.heap.size W W') : AtG w A n c L t W' :=
  ⟨h.bel.trans (hB.mono h.bel.size), h.bS.below hB h.bS.lt, h.bT.below hB h.bT.lt, h.bR.below hB h.bR.lt, h.ev.below hB (Nat.le_refl _)⟩
theorem AtG.drew {w : World} {A : Option Addr} {n c : Nat} {L : List Ev} {t : Int} {W : World} (h : AtG w A n c L t W) : AtG w A n c L t W.drew := h.on (Below.refl _ _).drew
theorem AtG.alloc {w : World} {A : Option Addr} {n c : Nat} {L : List Ev} {t : Int} {W : World} (h : AtG w A n c L t W) (o : Obj) : AtG w A n c L t (W.alloc o) := h.on ((Below.refl _ _).alloc (Nat.le_refl _) o)

theorem AtG.set {w : World} {A : Option Addr} {n c : Nat} {L : List Ev} {t : Int} {W : World} (hE : EvsIn w A L) (h : AtG w A n c L t W) {b : Nat} (hb : w.heap.size + 1 + 1 < b) (i : Nat) (v : Value) : AtG w A n c L t (W.setCell ⟨b, i, none⟩ v) :=
  have hB := h.bel.setCell (p := ⟨b, i, none⟩) (by show w.heap.size ≤ b; omega) v
  ⟨hB, h.bS.other (by omega) i v, h.bT.other (by omega) i v, h.bR.other (by omega) i v, hE.below hB (Nat.le_refl _)⟩
theorem ats_of {w : World} {A : Option Addr} {n c : Nat} {L : List Ev} {t : Int} {W : World} (h : AtG w A n c L t W) : W.cell? ⟨w.heap.size, 0, none⟩ = some (.slice A n c) ∧ AtG w A n c L t W := ⟨h.bS.cell 0 rfl, h⟩

set_option maxHeartbeats 16000000 in
theorem at_any (A : Option Addr) (n c : Nat) (L : List Ev) (t : Int) (hn : L.length = n) (hn2 : n ≤ 140737488351232) (hc : n ≤ c) (w : World) (hE : EvsIn w A L) :
    Calls Try.prog 49 #[.slice A n c, .int .i64 t] w fun e w' => e = .returned (atR (atV L t)) ∧ Below w.heap.size w w' := by
  have C1 := Lib.hid (fun (W : World) (h : EvsIn W A L) => run_any A n c L hn hn2 hc W h)
  have C2 := Lib.hid isIn_any
  have HA := Lib.hid (show atV L t = if lifeB L && inB t 0 10000000 then some (runV (L.take (kAt L t))).1 else none from rfl)
  have HV := Lib.hid (runV_err L)
  generalize runV L = rv at C1 HV
  obtain ⟨⟨st, ho, ep, si⟩, cn, er⟩ := rv
  generalize atV L t = av at HA
  go_enter Try.func49, Try.ntmps49
  go_wp2_with fail
  have g0 : AtG w A n c L t (((w.alloc (.cells #[.slice A n c] 24)).alloc (.cells #[.int .i64 t] 3)).alloc (.cells #[.int .i64 0, .int .i64 0, .int .i64 0, .int .i64 0] 26)) := by
    refine ⟨?_, ((Blk.new w _ _).alloc _).alloc _, ?_, ?_, ?_⟩
    · repeat (first | exact Below.refl _ _ | refine Below.alloc ?_ (by simp <;> omega) _)
    · have := (Blk.new (w.alloc (.cells #[.slice A n c] 24)) #[.int .i64 t] 3).alloc (.cells #[.int .i64 0, .int .i64 0, .int .i64 0, .int .i64 0] 26)
      rw [World.size_alloc] at this; exact this
    · have := Blk.new ((w.alloc (.cells #[.slice A n c] 24)).alloc (.cells #[.int .i64 t] 3)) #[.int .i64 0, .int .i64 0, .int .i64 0, .int .i64 0] 26
      rw [World.size_alloc, World.size_alloc] at this; exact this
    · exact hE.below (by repeat (first | exact Below.refl _ _ | refine Below.alloc ?_ (by simp <;> omega) _)) (Nat.le_refl _)
  refine (C1.out _ g0.ev).mono ?_
  rintro e w1 ⟨rfl, hB1⟩
  dsimp only [Ln.v]
  have g1 := (g0.on hB1).alloc (.cells #[.int .i64 st, .int .i64 ho, .int .i64 ep, .int .i64 si] 26)
  clear g0 hB1
  have cS := g1.bS.cell 0 rfl
  have cT := g1.bT.cell 0 rfl
  have cS2 := (g1.alloc (.cells #[.int .i64 0, .int .i64 0, .int .i64 0, .int .i64 0] 26)).bS.cell 0 rfl
  obtain ⟨r0, r1, r2, r3⟩ := line_cells (st := 0) (ho := 0) (ep := 0) (si := 0) g1.bR
  have f0 := g1.bR.frozen 0
  have f1 := g1.bR.frozen 1
  have f2 := g1.bR.frozen 2
  have f3 := g1.bR.frozen 3
  have G1 := Lib.hid g1
  rcases hl : lifeB L with _ | _
  · rw [hl] at HV HA
    obtain rfl : er = 140 := HV.out
    obtain rfl : av = none := HA.out
    clear g1 hl
    go_wp2_with fail
    refine bodyPost_ret (v := atR none) (by rw [results_cell_tmp rfl]; go_simp; try rfl) rfl ⟨rfl, ?_⟩
    repeat (first | exact G1.out.bel | refine Below.drew ?_ | refine Below.setCell ?_ (by simp <;> omega) _ | refine Below.alloc ?_ (by simp <;> omega) _)
  rcases hb : inB t 0 10000000 with _ | _
  · rw [hl, hb] at HA
    rw [hl] at HV
    have C2' := Lib.hid (C2.out t 0 10000000)
    rw [hb] at C2'
    obtain rfl : er = 0 := HV.out
    obtain rfl : av = none := HA.out
    clear g1 hl hb
    go_wp2_with (go_at_call 47; refine (C2'.out _).mono ?_; rintro e w' ⟨rfl, rfl⟩)
    refine bodyPost_ret (v := atR none) (by rw [results_cell_tmp rfl]; go_simp; try rfl) rfl ⟨rfl, ?_⟩
    repeat (first | exact G1.out.bel | refine Below.drew ?_ | refine Below.setCell ?_ (by simp <;> omega) _ | refine Below.alloc ?_ (by simp <;> omega) _)
  · rw [hl, hb] at HA
    rw [hl] at HV
    have C2' := Lib.hid (C2.out t 0 10000000)
    rw [hb] at C2'
    obtain rfl : er = 0 := HV.out
    have hk := kAt_le L t
    have hsp := kAt_spec L t (life_pairwise hl)
    have hrk : runV (L.take (kAt L t)) = runV (L.take (kAt L t)) := rfl
    rw [hn] at hk
    have hn' : (L.take (kAt L t)).length = kAt L t := by rw [List.length_take]; omega
    have C4 := Lib.hid (fun (W : World) (h : AtG w A n c L t W) => run_any A (kAt L t) c (L.take (kAt L t)) hn' (by omega) (by omega) W (h.ev.take _))
    have C3 := Lib.hid (fun (W : World) (h : AtG w A n c L t W) => search 58 #[.pointer (some ⟨w.heap.size, 0, none⟩), .pointer (some ⟨w.heap.size + 1, 0, none⟩)] n (kAt L t) (fun i => decide (t < (L.getD i ⟨0, 0, 0⟩).a)) W (enters_of Try.func58 (by kernel_rfl) rfl) hn2 hk
      (fun W' i hB hi => by
        have g := h.on hB
        have := at1 w.heap.size (w.heap.size + 1) A n c L t i hn hi W' g.ev (g.bS.cell 0 rfl) (g.bT.cell 0 rfl)
        rw [getD_lt _ (show i < L.length by omega)]
        exact this)
      (fun i hi => by
        have h' : i < L.length := by omega
        rw [getD_lt _ h']
        have := (hsp i h').1 hi
        exact decide_eq_false (by omega))
      (fun i h1 h2 => by
        have h' : i < L.length := by omega
        rw [getD_lt _ h']
        have := (hsp i h').2
        exact decide_eq_true (by omega)))
    have HA' := Lib.hid (show av = some (runV (L.take (kAt L t))).1 from HA.out)
    generalize runV (L.take (kAt L t)) = rv at C4 HA'
    obtain ⟨⟨xst, xho, xep, xsi⟩, xcn, xer⟩ := rv
    obtain rfl := HA'.out
    dsimp only [Ln.v] at C4
    generalize kAt L t = k at hk C3 C4
    have hkc : k ≤ c := by omega
    clear g1 hl hb hsp hrk hn' HA HA' HV C1
    go_wp2_with (go_at_call 47; refine (C2'.out _).mono ?_; rintro e w' ⟨rfl, rfl⟩)
    have hmix : Try.prog.follows .mixedOrders = true := by kernel_rfl
    clear cS cT cS2 r0 r1 r2 r3 f0 f1 f2 f3
    have GG := G1.out
    clear C2 C2'
    have s1 := GG.bR.lt
    rw [World.size_alloc] at s1
    go_region_held (fun W => W.cell? ⟨w.heap.size, 0, none⟩ = some (.slice A n c) ∧ AtG w A n c L t W) ((refine ats_of ?_; repeat (first | assumption | exact And.right (by assumption) | refine AtG.drew ?_ | refine AtG.alloc ?_ _ | refine AtG.set hE ?_ (by omega) _ _)))
     (first
      | (go_at_call 57; refine (C3.out _ (And.right (by assumption))).mono ?_; rintro e w3 ⟨rfl, hB3⟩; have G3 := AtG.on (A := A) (n := n) (c := c) (L := L) (t := t) (w := w) (And.right (by assumption)) hB3; have s3 := G3.bR.lt; (try (with_reducible have kz := (Blk.new _ #[.int .i64 0, .int .i64 0, .int .i64 0, .int .i64 0] 26).drew.below hB3 (World.lt_alloc _ _))))
      | (go_at_call 17; refine (C4.out _ (And.right (by assumption))).mono ?_; rintro e w4 ⟨rfl, hB4⟩; have G4 := AtG.on (A := A) (n := n) (c := c) (L := L) (t := t) (w := w) (And.right (by assumption)) hB4; have s4 := G4.bR.lt; (try (with_reducible have k4 := kz.below hB4 kz.lt)); (try (with_reducible have k4 := (Blk.new _ #[.int .i64 0, .int .i64 0, .int .i64 0, .int .i64 0] 26).below hB4 (World.lt_alloc _ _))); (try simp only [World.size_alloc, World.size_drew] at k4); (try (have kB := k4; replace k4 := zfacts k4; revert k4; rintro ⟨z0, z1, z2, z3, y0, y1, y2, y3⟩))))
    · have gF := G4.alloc (.cells #[.int .i64 xst, .int .i64 xho, .int .i64 xep, .int .i64 xsi] 26)
      have kF := Blk.new w4 #[.int .i64 xst, .int .i64 xho, .int .i64 xep, .int .i64 xsi] 26
      generalize w4.alloc (.cells #[.int .i64 xst, .int .i64 xho, .int .i64 xep, .int .i64 xsi] 26) = Wf at gF kF ⊢
      clear G1 GG C3 C4
      obtain ⟨r0, r1, r2, r3⟩ := line_cells (st := 0) (ho := 0) (ep := 0) (si := 0) gF.bR
      obtain ⟨x0, x1, x2, x3⟩ := line_cells (st := xst) (ho := xho) (ep := xep) (si := xsi) kF
      have f0 := gF.bR.frozen 0
      have f1 := gF.bR.frozen 1
      have f2 := gF.bR.frozen 2
      have f3 := gF.bR.frozen 3
      have HgF := Lib.hid gF.bel
      clear gF kF G4
      go_wp2_with fail
      refine bodyPost_ret (v := atR (some ⟨xst, xho, xep, xsi⟩)) (by rw [results_cell_tmp rfl]; go_simp; try rfl) rfl ⟨rfl, ?_⟩
      repeat (first | exact HgF.out | refine Below.drew ?_ | refine Below.setCell ?_ (by simp <;> omega) _ | refine Below.alloc ?_ (by simp <;> omega) _)
    · have gF := AtG.set hE (AtG.set hE (AtG.set hE (AtG.set hE G4 (b := w3.heap.size) (by omega) 0 (.int .i64 xst)) (b := w3.heap.size) (by omega) 1 (.int .i64 xho)) (b := w3.heap.size) (by omega) 2 (.int .i64 xep)) (b := w3.heap.size) (by omega) 3 (.int .i64 xsi)
      have kF := (((kB.set 0 (.int .i64 xst)).set 1 (.int .i64 xho)).set 2 (.int .i64 xep)).set 3 (.int .i64 xsi)
      generalize (((w4.setCell ⟨w3.heap.size, 0, none⟩ (.int .i64 xst)).setCell ⟨w3.heap.size, 1, none⟩ (.int .i64 xho)).setCell ⟨w3.heap.size, 2, none⟩ (.int .i64 xep)).setCell ⟨w3.heap.size, 3, none⟩ (.int .i64 xsi) = Wf at gF kF ⊢
      have s9 : w.heap.size + 1 + 1 < w3.heap.size := by omega
      clear z0 z1 z2 z3 y0 y1 y2 y3 kB
      clear G1 GG C3 C4
      obtain ⟨r0, r1, r2, r3⟩ := line_cells (st := 0) (ho := 0) (ep := 0) (si := 0) gF.bR
      obtain ⟨x0, x1, x2, x3⟩ := line_cells (st := xst) (ho := xho) (ep := xep) (si := xsi) kF
      have f0 := gF.bR.frozen 0
      have f1 := gF.bR.frozen 1
      have f2 := gF.bR.frozen 2
      have f3 := gF.bR.frozen 3
      have HgF := Lib.hid gF.bel
      clear gF kF G4
      go_wp2_with fail
      refine bodyPost_ret (v := atR (some ⟨xst, xho, xep, xsi⟩)) (by rw [results_cell_tmp rfl]; go_simp; try rfl) rfl ⟨rfl, ?_⟩
      repeat (first | exact HgF.out | refine Below.drew ?_ | refine Below.setCell ?_ (by simp <;> omega) _ | refine Below.alloc ?_ (by simp <;> omega) _)
    · have gF := AtG.set hE (AtG.set hE (AtG.set hE (AtG.set hE G4 (b := w1.heap.size + 1) (by omega) 0 (.int .i64 xst)) (b := w1.heap.size + 1) (by omega) 1 (.int .i64 xho)) (b := w1.heap.size + 1) (by omega) 2 (.int .i64 xep)) (b := w1.heap.size + 1) (by omega) 3 (.int .i64 xsi)
      have kF := (((kB.set 0 (.int .i64 xst)).set 1 (.int .i64 xho)).set 2 (.int .i64 xep)).set 3 (.int .i64 xsi)
      generalize (((w4.setCell ⟨w1.heap.size + 1, 0, none⟩ (.int .i64 xst)).setCell ⟨w1.heap.size + 1, 1, none⟩ (.int .i64 xho)).setCell ⟨w1.heap.size + 1, 2, none⟩ (.int .i64 xep)).setCell ⟨w1.heap.size + 1, 3, none⟩ (.int .i64 xsi) = Wf at gF kF ⊢
      have s9 : w.heap.size + 1 + 1 < w1.heap.size + 1 := by omega
      clear z0 z1 z2 z3 y0 y1 y2 y3 kB
      clear G1 GG C3 C4
      obtain ⟨r0, r1, r2, r3⟩ := line_cells (st := 0) (ho := 0) (ep := 0) (si := 0) gF.bR
      obtain ⟨x0, x1, x2, x3⟩ := line_cells (st := xst) (ho := xho) (ep := xep) (si := xsi) kF
      have f0 := gF.bR.frozen 0
      have f1 := gF.bR.frozen 1
      have f2 := gF.bR.frozen 2
      have f3 := gF.bR.frozen 3
      have HgF := Lib.hid gF.bel
      clear gF kF G4
      go_wp2_with fail
      refine bodyPost_ret (v := atR (some ⟨xst, xho, xep, xsi⟩)) (by rw [results_cell_tmp rfl]; go_simp; try rfl) rfl ⟨rfl, ?_⟩
      repeat (first | exact HgF.out | refine Below.drew ?_ | refine Below.setCell ?_ (by simp <;> omega) _ | refine Below.alloc ?_ (by simp <;> omega) _)
    · have gF := AtG.set hE (AtG.set hE (AtG.set hE (AtG.set hE G4 (b := w1.heap.size + 1) (by omega) 0 (.int .i64 xst)) (b := w1.heap.size + 1) (by omega) 1 (.int .i64 xho)) (b := w1.heap.size + 1) (by omega) 2 (.int .i64 xep)) (b := w1.heap.size + 1) (by omega) 3 (.int .i64 xsi)
      have kF := (((kB.set 0 (.int .i64 xst)).set 1 (.int .i64 xho)).set 2 (.int .i64 xep)).set 3 (.int .i64 xsi)
      generalize (((w4.setCell ⟨w1.heap.size + 1, 0, none⟩ (.int .i64 xst)).setCell ⟨w1.heap.size + 1, 1, none⟩ (.int .i64 xho)).setCell ⟨w1.heap.size + 1, 2, none⟩ (.int .i64 xep)).setCell ⟨w1.heap.size + 1, 3, none⟩ (.int .i64 xsi) = Wf at gF kF ⊢
      have s9 : w.heap.size + 1 + 1 < w1.heap.size + 1 := by omega
      clear z0 z1 z2 z3 y0 y1 y2 y3 kB
      clear G1 GG C3 C4
      obtain ⟨r0, r1, r2, r3⟩ := line_cells (st := 0) (ho := 0) (ep := 0) (si := 0) gF.bR
      obtain ⟨x0, x1, x2, x3⟩ := line_cells (st := xst) (ho := xho) (ep := xep) (si := xsi) kF
      have f0 := gF.bR.frozen 0
      have f1 := gF.bR.frozen 1
      have f2 := gF.bR.frozen 2
      have f3 := gF.bR.frozen 3
      have HgF := Lib.hid gF.bel
      clear gF kF G4
      go_wp2_with fail
      refine bodyPost_ret (v := atR (some ⟨xst, xho, xep, xsi⟩)) (by rw [results_cell_tmp rfl]; go_simp; try rfl) rfl ⟨rfl, ?_⟩
      repeat (first | exact HgF.out | refine Below.drew ?_ | refine Below.setCell ?_ (by simp <;> omega) _ | refine Below.alloc ?_ (by simp <;> omega) _)
end Go.Proofs.Yteilkigdlkeiaaa.Lf

namespace Go.Proofs.Yteilkigdlkeiaaa.Lf
set_option linter.unusedVariables false
set_option linter.unusedSimpArgs false
open Go Go.RowKit

structure Ml where
  ep : Int
  at_ : Int
deriving DecidableEq
def Ml.v (m : Ml) : Value := .agg #[.int .i64 m.ep, .int .i64 m.at_]
def zeroM : Ml := ⟨0, 0⟩

def keepV (L : List Ev) (t : Int) : Option Ml := match atV L t with
  | some l => if usedB l then some ⟨l.ep, t⟩ else none
  | none => none
def keepR (o : Option Ml) : Value := match o with
  | some m => .tuple #[m.v, .int .i64 0]
  | none => .tuple #[zeroM.v, .int .i64 140]
/-- what life.Fate returns: the fate, the holder, the error -/
def fateV (L : List Ev) (m : Ml) (t : Int) : Int × Int × Int :=
  match keepV L m.at_, atV L t with
  | some k, some l => if k.ep = m.ep ∧ m.at_ ≤ t then (if l.st = 0 ∨ l.ep ≠ m.ep then (3, -1, 0) else if l.st = 1 then (1, l.ho, 0) else (2, -1, 0)) else (0, 0, 140)
  | _, _ => (0, 0, 140)
def fateR (x : Int × Int × Int) : Value := .tuple #[.int .i64 x.1, .int .i64 x.2.1, .int .i64 x.2.2]

set_option maxHeartbeats 1000000 in
theorem atGet_any (A : Option Addr) (n c : Nat) (L : List Ev) (t : Int) (hn : L.length = n) (hn2 : n ≤ 140737488351232) (hc : n ≤ c) (w : World) (hE : EvsIn w A L) :
    Calls Try.prog 25 #[.slice A n c, .int .i64 t] w fun e w' => e = .returned (stepV (atV L t)) ∧ Below w.heap.size w w' := by
  have e1 := hE.below (W' := w.alloc (.cells #[.int .i64 0, .int .i64 0, .int .i64 0, .int .i64 0] 26)) ((Below.refl _ _).alloc (Nat.le_refl _) _) (Nat.le_refl _)
  have C1 := at_any A n c L t hn hn2 hc _ e1
  have k0 := Blk.new w #[.int .i64 0, .int .i64 0, .int .i64 0, .int .i64 0] 26
  generalize atV L t = av at C1 ⊢
  rcases av with _ | ⟨st, ho, ep, si⟩
  all_goals (
    dsimp only [atR, Ln.v, zeroL] at C1
    have C1 := Lib.hid C1
    go_enter Try.func25, Try.ntmps25
    go_wp2_with fail
    refine C1.out.mono ?_
    rintro e w1 ⟨rfl, hB1⟩
    have hB : Below w.heap.size w w1 := ((Below.refl _ _).alloc (Nat.le_refl _) _).trans (hB1.mono (by simp))
    have kz := k0.below hB1 k0.lt)
  · obtain ⟨z0, z1, z2, z3, y0, y1, y2, y3⟩ := zfacts (kz.alloc (.cells #[.int .i64 0, .int .i64 0, .int .i64 0, .int .i64 0] 26))
    go_wp2_with fail
    refine bodyPost_ret (v := stepV none) (by rw [results_cell_tmp rfl]; go_simp; try rfl) rfl ⟨rfl, ?_⟩
    repeat (first | exact hB | refine Below.drew ?_ | refine Below.setCell ?_ (by simp <;> omega) _ | refine Below.alloc ?_ (by have := hB.size; simp <;> omega) _)
  · obtain ⟨z0, z1, z2, z3, y0, y1, y2, y3⟩ := zfacts (kz.alloc (.cells #[.int .i64 st, .int .i64 ho, .int .i64 ep, .int .i64 si] 26))
    go_wp2_with fail
    refine bodyPost_ret (v := stepV (some ⟨st, ho, ep, si⟩)) (by rw [results_cell_tmp rfl]; go_simp; try rfl) rfl ⟨rfl, ?_⟩
    repeat (first | exact hB | refine Below.drew ?_ | refine Below.setCell ?_ (by simp <;> omega) _ | refine Below.alloc ?_ (by have := hB.size; simp <;> omega) _)

theorem mfacts {W : World} {b : Nat} {t : TypeId} {x y : Int} (h : Blk W b #[.int .i64 x, .int .i64 y] t) :
    W.cell? ⟨b, 0, none⟩ = some (.int .i64 x) ∧ W.cell? ⟨b, 1, none⟩ = some (.int .i64 y) ∧ W.frozen? ⟨b, 0, none⟩ = false ∧ W.frozen? ⟨b, 1, none⟩ = false :=
  ⟨h.cell 0 rfl, h.cell 1 rfl, h.frozen 0, h.frozen 1⟩

set_option maxHeartbeats 1000000 in
theorem keep_any (A : Option Addr) (n c : Nat) (L : List Ev) (t : Int) (hn : L.length = n) (hn2 : n ≤ 140737488351232) (hc : n ≤ c) (w : World) (hE : EvsIn w A L) :
    Calls Try.prog 27 #[.slice A n c, .int .i64 t] w fun e w' => e = .returned (keepR (keepV L t)) ∧ Below w.heap.size w w' := by
  have e1 := hE.below (W' := w.alloc (.cells #[.int .i64 0, .int .i64 0] 28)) ((Below.refl _ _).alloc (Nat.le_refl _) _) (Nat.le_refl _)
  have C1 := at_any A n c L t hn hn2 hc _ e1
  have C2 := Lib.hid used_any
  have k0 := Blk.new w #[.int .i64 0, .int .i64 0] 28
  unfold keepV
  generalize atV L t = av at C1 ⊢
  rcases av with _ | ⟨st, ho, ep, si⟩
  · dsimp only [atR, Ln.v, zeroL] at C1
    have C1 := Lib.hid C1
    go_enter Try.func27, Try.ntmps27
    go_wp2_with fail
    refine C1.out.mono ?_
    rintro e w1 ⟨rfl, hB1⟩
    have hB : Below w.heap.size w w1 := ((Below.refl _ _).alloc (Nat.le_refl _) _).trans (hB1.mono (by simp))
    have kz := k0.below hB1 k0.lt
    obtain ⟨z0, z1, y0, y1⟩ := mfacts (kz.alloc (.cells #[.int .i64 0, .int .i64 0, .int .i64 0, .int .i64 0] 26))
    go_wp2_with fail
    refine bodyPost_ret (v := keepR none) (by rw [results_cell_tmp rfl]; go_simp; try rfl) rfl ⟨rfl, ?_⟩
    repeat (first | exact hB | refine Below.drew ?_ | refine Below.setCell ?_ (by simp <;> omega) _ | refine Below.alloc ?_ (by have := hB.size; simp <;> omega) _)
  · dsimp only [atR, Ln.v, zeroL] at C1
    have C1 := Lib.hid C1
    have C2' := Lib.hid (C2.out ⟨st, ho, ep, si⟩)
    dsimp only
    rcases hu : usedB ⟨st, ho, ep, si⟩ with _ | _
    all_goals (
      rw [hu] at C2'
      go_enter Try.func27, Try.ntmps27
      go_wp2_with fail
      refine C1.out.mono ?_
      rintro e w1 ⟨rfl, hB1⟩
      have hB : Below w.heap.size w w1 := ((Below.refl _ _).alloc (Nat.le_refl _) _).trans (hB1.mono (by simp))
      have kz := (k0.below hB1 k0.lt).alloc (.cells #[.int .i64 st, .int .i64 ho, .int .i64 ep, .int .i64 si] 26)
      have kl := Blk.new w1 #[.int .i64 st, .int .i64 ho, .int .i64 ep, .int .i64 si] 26
      have hB2 := hB.alloc hB.size (.cells #[.int .i64 st, .int .i64 ho, .int .i64 ep, .int .i64 si] 26)
      go_wp2_with fail
      refine (C2'.out _).mono ?_
      rintro e w3 ⟨rfl, hB3⟩
      replace hB2 := hB2.trans (hB3.mono hB2.size)
      obtain ⟨z0, z1, y0, y1⟩ := mfacts (kz.below hB3 kz.lt)
      obtain ⟨c0, c1, c2, c3⟩ := line_cells (st := st) (ho := ho) (ep := ep) (si := si) (kl.below hB3 kl.lt)
      clear C1 C2 C2' hB3 hB1 kz kl
      go_wp2_with fail)
    · refine bodyPost_ret (v := keepR none) (by rw [results_cell_tmp rfl]; go_simp; try rfl) rfl ⟨rfl, ?_⟩
      repeat (first | exact hB2 | refine Below.drew ?_ | refine Below.setCell ?_ (by simp <;> omega) _ | refine Below.alloc ?_ (by have := hB.size; simp <;> omega) _)
    · refine bodyPost_ret (v := keepR (some ⟨ep, t⟩)) (by rw [results_cell_tmp rfl]; go_simp; try rfl) rfl ⟨rfl, ?_⟩
      repeat (first | exact hB2 | refine Below.drew ?_ | refine Below.setCell ?_ (by simp <;> omega) _ | refine Below.alloc ?_ (by have := hB.size; simp <;> omega) _)
end Go.Proofs.Yteilkigdlkeiaaa.Lf
