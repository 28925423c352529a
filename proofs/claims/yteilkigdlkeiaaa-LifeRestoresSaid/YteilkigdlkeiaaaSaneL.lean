/- sane, by its contract. -/
import Derived.Test.YteilkigdlkeiaaaG8
import Derived.Test.YteilkigdlkeiaaaG9
import Derived.Test.YteilkigdlkeiaaaMade
import Derived.BigQuiet
import Derived.Deep.RegionHeld
import Derived.Lib.QuietBelow
namespace Go.Proofs.Yteilkigdlkeiaaa.Lf
set_option linter.unusedVariables false
set_option linter.unusedSimpArgs false
open Go Go.RowKit

theorem SyIn.set {W : World} {A : Option Addr} {L : List Sy} (h : SyIn W A L) {b : Nat} (hne : ∀ ad, A = some ad → ad.block ≠ b) (i : Nat) (v : Value) : SyIn (W.setCell ⟨b, i, none⟩ v) A L := by
  intro k hk
  obtain ⟨ad, e, h0, h1, h2, h3⟩ := h k hk
  have hb : (W.setCell ⟨b, i, none⟩ v).heap[ad.block]? = W.heap[ad.block]? := by
    simp only [World.setCell]
    rw [Array.getElem?_modify, if_neg (fun e' : b = ad.block => hne ad e e'.symm)]
  have hb2 : ∀ o : Nat, (W.setCell ⟨b, i, none⟩ v).cell? ⟨(ad.add (k * 4)).block, o, none⟩ = W.cell? ⟨(ad.add (k * 4)).block, o, none⟩ := fun o => World.cell?_of_block (by show (W.setCell ⟨b, i, none⟩ v).heap[(ad.add (k * 4)).block]? = W.heap[(ad.add (k * 4)).block]?; rw [Addr_add_block]; exact hb)
  refine ⟨ad, e, ?_, (hb2 _).trans h1, (hb2 _).trans h2, (hb2 _).trans h3⟩
  exact (World.cell?_of_block (by rw [Addr_add_block]; exact hb)).trans h0
theorem syIn_base {W : World} {base : Nat} {A : Option Addr} {n c : Nat} {L : List Sy} (h : stayRow W base (.slice A n c) L) : ∀ ad, A = some ad → base ≤ ad.block := by
  intro ad e
  rcases h.2 with ⟨h1, _⟩ | ⟨g, cap, cur, h1, hb, _⟩
  · cases h1; cases e
  · cases h1; cases e; exact hb

def twoC : Array Value := #[.int .i64 5, .int .i64 1, .int .i64 100, .int .i64 400, .int .i64 6, .int .i64 2, .int .i64 2592400, .int .i64 10000001]
theorem two_in {W : World} {b : Nat} (h : Blk W b #[.int .i64 5, .int .i64 1, .int .i64 100, .int .i64 400, .int .i64 6, .int .i64 2, .int .i64 2592400, .int .i64 10000001] 62) : SyIn W (some ⟨b, 0, none⟩) [⟨5, 1, 100, 400⟩, ⟨6, 2, 2592400, 10000001⟩] := by
  intro k hk
  have hk' : k < 2 := hk
  refine ⟨_, rfl, ?_⟩
  rcases (show k = 0 ∨ k = 1 by omega) with rfl | rfl
  all_goals exact ⟨h.cell _ rfl, h.cell _ rfl, h.cell _ rfl, h.cell _ rfl⟩
/-- what holds at the end of sane -/
structure SaneS (w : World) (bE : Nat) (SA : Option Addr) (W : World) : Prop where
  bel : Below w.heap.size w W
  ev : Blk W bE #[.int .i64 1, .int .i64 100, .int .i64 5] 54
  sy : SyIn W SA [⟨5, 1, 100, 400⟩, ⟨6, 2, 2592400, 10000001⟩]
theorem SaneS.on {w : World} {bE : Nat} {SA : Option Addr} {W W' : World} (h : SaneS w bE SA W) (hB : Below W.heap.size W W') : SaneS w bE SA W' :=
  ⟨h.bel.trans (hB.mono h.bel.size), h.ev.below hB h.ev.lt, h.sy.below hB (Nat.le_refl _)⟩
theorem SaneS.drew {w : World} {bE : Nat} {SA : Option Addr} {W : World} (h : SaneS w bE SA W) : SaneS w bE SA W.drew := h.on (Below.refl _ _).drew
theorem SaneS.alloc {w : World} {bE : Nat} {SA : Option Addr} {W : World} (h : SaneS w bE SA W) (o : Obj) : SaneS w bE SA (W.alloc o) := h.on ((Below.refl _ _).alloc (Nat.le_refl _) o)
theorem sane_of {w : World} {bE : Nat} {SA : Option Addr} {W : World} (h : SaneS w bE SA W) : W.cell? ⟨bE, 0, none⟩ = some (.int .i64 1) ∧ W.cell? ⟨bE, 1, none⟩ = some (.int .i64 100) ∧ W.cell? ⟨bE, 2, none⟩ = some (.int .i64 5) ∧ SaneS w bE SA W :=
  ⟨h.ev.cell 0 rfl, h.ev.cell 1 rfl, h.ev.cell 2 rfl, h⟩

def exL : List Ev := [⟨1, 100, 5⟩, ⟨3, 200, -1⟩, ⟨4, 300, -1⟩, ⟨5, 400, -1⟩, ⟨7, 2592400, -1⟩, ⟨1, 2592400, 6⟩]
def exC : Array Value := #[.int .i64 1, .int .i64 100, .int .i64 5, .int .i64 3, .int .i64 200, .int .i64 (-1), .int .i64 4, .int .i64 300, .int .i64 (-1), .int .i64 5, .int .i64 400, .int .i64 (-1), .int .i64 7, .int .i64 2592400, .int .i64 (-1), .int .i64 1, .int .i64 2592400, .int .i64 6]
def exL2 : List Ev := [⟨1, 100, 5⟩, ⟨3, 200, -1⟩, ⟨4, 300, -1⟩, ⟨5, 400, -1⟩, ⟨7, 2592399, -1⟩, ⟨1, 2592400, 6⟩]
def exC2 : Array Value := #[.int .i64 1, .int .i64 100, .int .i64 5, .int .i64 3, .int .i64 200, .int .i64 (-1), .int .i64 4, .int .i64 300, .int .i64 (-1), .int .i64 5, .int .i64 400, .int .i64 (-1), .int .i64 7, .int .i64 2592399, .int .i64 (-1), .int .i64 1, .int .i64 2592400, .int .i64 6]
def tmC : Array Value := #[.int .i64 99, .int .i64 100, .int .i64 250, .int .i64 400, .int .i64 2592400]
def wtC : Array Value := #[.int .i64 0, .int .i64 (-1), .int .i64 0, .int .i64 0, .int .i64 1, .int .i64 5, .int .i64 1, .int .i64 100, .int .i64 2, .int .i64 5, .int .i64 1, .int .i64 200, .int .i64 3, .int .i64 5, .int .i64 1, .int .i64 400, .int .i64 1, .int .i64 6, .int .i64 2, .int .i64 2592400]

theorem ex_in {W : World} {b : Nat} (h : Blk W b exC 54) : EvsIn W (some ⟨b, 0, none⟩) exL := by
  intro k hk
  have hk' : k < 6 := hk
  refine ⟨_, rfl, ?_⟩
  rcases (show k = 0 ∨ k = 1 ∨ k = 2 ∨ k = 3 ∨ k = 4 ∨ k = 5 by omega) with rfl | rfl | rfl | rfl | rfl | rfl
  all_goals exact ⟨h.cell _ rfl, h.cell _ rfl, h.cell _ rfl⟩
theorem ex_in2 {W : World} {b : Nat} (h : Blk W b exC2 54) : EvsIn W (some ⟨b, 0, none⟩) exL2 := by
  intro k hk
  have hk' : k < 6 := hk
  refine ⟨_, rfl, ?_⟩
  rcases (show k = 0 ∨ k = 1 ∨ k = 2 ∨ k = 3 ∨ k = 4 ∨ k = 5 by omega) with rfl | rfl | rfl | rfl | rfl | rfl
  all_goals exact ⟨h.cell _ rfl, h.cell _ rfl, h.cell _ rfl⟩

theorem ex_times (k : Nat) (hk : k < 5) : ∃ T a b c d : Int, tmC[k]? = some (.int .i64 T) ∧ wtC[k * 4]? = some (.int .i64 a) ∧ wtC[k * 4 + 1]? = some (.int .i64 b) ∧ wtC[k * 4 + 2]? = some (.int .i64 c) ∧ wtC[k * 4 + 3]? = some (.int .i64 d) ∧
    atV exL T = some ⟨a, b, c, d⟩ ∧ validB ⟨a, b, c, d⟩ = true := by
  rcases (show k = 0 ∨ k = 1 ∨ k = 2 ∨ k = 3 ∨ k = 4 by omega) with rfl | rfl | rfl | rfl | rfl
  · exact ⟨99, 0, -1, 0, 0, rfl, rfl, rfl, rfl, rfl, by decide, by decide⟩
  · exact ⟨100, 1, 5, 1, 100, rfl, rfl, rfl, rfl, rfl, by decide, by decide⟩
  · exact ⟨250, 2, 5, 1, 200, rfl, rfl, rfl, rfl, rfl, by decide, by decide⟩
  · exact ⟨400, 3, 5, 1, 400, rfl, rfl, rfl, rfl, rfl, by decide, by decide⟩
  · exact ⟨2592400, 1, 6, 2, 2592400, rfl, rfl, rfl, rfl, rfl, by decide, by decide⟩
theorem ex_fates (k : Nat) (hk : k < 4) : ∃ T f h : Int, (#[.int .i64 250, .int .i64 300, .int .i64 400, .int .i64 2592400] : Array Value)[k]? = some (.int .i64 T) ∧ (#[.int .i64 2, .int .i64 1, .int .i64 2, .int .i64 3] : Array Value)[k]? = some (.int .i64 f) ∧
    (#[.int .i64 (-1), .int .i64 5, .int .i64 (-1), .int .i64 (-1)] : Array Value)[k]? = some (.int .i64 h) ∧ fateV exL ⟨1, 250⟩ T = (f, h, 0) := by
  rcases (show k = 0 ∨ k = 1 ∨ k = 2 ∨ k = 3 by omega) with rfl | rfl | rfl | rfl
  · exact ⟨250, 2, -1, rfl, rfl, rfl, by decide⟩
  · exact ⟨300, 1, 5, rfl, rfl, rfl, by decide⟩
  · exact ⟨400, 2, -1, rfl, rfl, rfl, by decide⟩
  · exact ⟨2592400, 3, -1, rfl, rfl, rfl, by decide⟩
theorem ex_life : lifeB exL = true := by decide
theorem ex_keep : keepV exL 250 = some ⟨1, 250⟩ := by decide
theorem ex_keep99 : keepV exL 99 = none := by decide
theorem ex_run : runV exL = (⟨1, 6, 2, 2592400⟩, 6, 0) := by decide
theorem ex_run2 : runV exL2 = (zeroL, 4, 140) := by decide
theorem ex_stays : staysOf exL (items exL) = [⟨5, 1, 100, 400⟩, ⟨6, 2, 2592400, 10000001⟩] := by decide

open Go.Proofs.Yteilkigdlkeiaaa.PutInt (bs bs_eq bs_data bs_size)
open Go.Proofs.Yteilkigdlkeiaaa.Leb (putL intL zig_len leb leb_lt leb_ge zig)
theorem ex_enc : encL ⟨1, 100, 5⟩ = [2, 200, 1, 10] := by
  have h1 : (putL 1).1 = [2] := by unfold putL; rw [if_pos (by decide)]; simp only; rw [leb_lt (by decide)]; rfl
  have h2 : (putL 100).1 = [200, 1] := by unfold putL; rw [if_pos (by decide)]; simp only; rw [leb_ge (by decide), leb_lt (by decide)]; rfl
  have h3 : (putL 5).1 = [10] := by unfold putL; rw [if_pos (by decide)]; simp only; rw [leb_lt (by decide)]; rfl
  simp only [encL, putsL, List.flatMap_cons, List.flatMap_nil, h1, h2, h3]
  rfl
theorem ex_dec : decV [2, 200, 1, 10] = some ⟨1, 100, 5⟩ := by decide
theorem ex_str : bs [2, 200, 1, 10] = ⟨#[2, 200, 1, 10]⟩ := rfl

set_option maxHeartbeats 8000000 in
set_option maxRecDepth 100000 in
theorem sane_any (w : World) : Calls Try.prog 13 #[] w fun e w' => e = .returned (.bool true) ∧ Below w.heap.size w w' := by
  have CE := Lib.hid example_any
  have CA := Lib.hid (fun (A : Option Addr) (t : Int) (W : World) (h : EvsIn W A exL) => atGet_any A 6 6 exL t rfl (by omega) (by omega) W h)
  have CV := Lib.hid valid_any
  have CK := Lib.hid (fun (A : Option Addr) (W : World) (h : EvsIn W A exL) => (show Calls Try.prog 27 #[.slice A 6 6, .int .i64 250] W fun e w' => e = .returned (.tuple #[.agg #[.int .i64 1, .int .i64 250], .int .i64 0]) ∧ Below W.heap.size W w' from by have := keep_any A 6 6 exL 250 rfl (by omega) (by omega) W h; rw [ex_keep] at this; exact this))
  have CR := Lib.hid (fun (A : Option Addr) (W : World) (h : EvsIn W A exL) => (show Calls Try.prog 17 #[.slice A 6 6] W fun e w' => e = .returned (.tuple #[.agg #[.int .i64 1, .int .i64 6, .int .i64 2, .int .i64 2592400], .int .i64 6, .int .i64 0]) ∧ Below W.heap.size W w' from by have := run_any A 6 6 exL rfl (by omega) (by omega) W h; rw [ex_run] at this; exact this))
  have CR2 := Lib.hid (fun (A : Option Addr) (W : World) (h : EvsIn W A exL2) => (show Calls Try.prog 17 #[.slice A 6 6] W fun e w' => e = .returned (.tuple #[.agg #[.int .i64 0, .int .i64 0, .int .i64 0, .int .i64 0], .int .i64 4, .int .i64 140]) ∧ Below W.heap.size W w' from by have := run_any A 6 6 exL2 rfl (by omega) (by omega) W h; rw [ex_run2] at this; exact this))
  have CK2 := Lib.hid (fun (A : Option Addr) (W : World) (h : EvsIn W A exL) => (show Calls Try.prog 27 #[.slice A 6 6, .int .i64 99] W fun e w' => e = .returned (.tuple #[.agg #[.int .i64 0, .int .i64 0], .int .i64 140]) ∧ Below W.heap.size W w' from by have := keep_any A 6 6 exL 99 rfl (by omega) (by omega) W h; rw [ex_keep99] at this; exact this))
  have CS := Lib.hid (fun (A : Option Addr) (W : World) (h : EvsIn W A exL) => (show Calls Try.prog 19 #[.slice A 6 6] W fun e w' => ∃ v, e = .returned (.tuple #[v, .int .i64 0]) ∧ stayRow w' W.heap.size v [⟨5, 1, 100, 400⟩, ⟨6, 2, 2592400, 10000001⟩] ∧ Below W.heap.size W w' from by have := stays_good A 6 6 exL rfl (by omega) (by omega) ex_life W h; rw [ex_stays] at this; exact this))
  have CEN := Lib.hid (fun (W : World) => (show Calls Try.prog 36 #[.agg #[.int .i64 1, .int .i64 100, .int .i64 5]] W fun e w' => e = .returned (.tuple #[.string ⟨#[2, 200, 1, 10]⟩, .int .i64 0]) ∧ Below W.heap.size W w' from by have := encode_any ⟨1, 100, 5⟩ W; rw [encR, if_pos (by decide), ex_enc, ex_str] at this; exact this))
  have CDE := Lib.hid (fun (W : World) => (show Calls Try.prog 37 #[.string ⟨#[2, 200, 1, 10]⟩] W fun e w' => e = .returned (.tuple #[.agg #[.int .i64 1, .int .i64 100, .int .i64 5], .int .i64 0]) ∧ Below W.heap.size W w' from by have := decode_any ⟨#[2, 200, 1, 10]⟩ (by decide) W; rw [show (⟨#[2, 200, 1, 10]⟩ : ByteArray).data.toList = [2, 200, 1, 10] from rfl, ex_dec] at this; exact this))
  have CF := Lib.hid (fun (A : Option Addr) (t : Int) (W : World) (h : EvsIn W A exL) => fate_any A 6 6 exL ⟨1, 250⟩ t rfl (by omega) (by omega) W h)
  go_enter Try.func13, Try.ntmps13
  go_wp2_with fail
  refine (CE.out _).mono ?_
  rintro e w1 ⟨rfl, rfl⟩
  go_upto_region 4 with fail
  have k1 := ((Blk.new w exC 54).alloc (.cells tmC 3)).alloc (.cells wtC 26)
  have k2 := (Blk.new (w.alloc (.cells exC 54)) tmC 3).alloc (.cells wtC 26)
  have k3 := Blk.new ((w.alloc (.cells exC 54)).alloc (.cells tmC 3)) wtC 26
  have hB : Below w.heap.size w (((w.alloc (.cells exC 54)).alloc (.cells tmC 3)).alloc (.cells wtC 26)) := by
    repeat (first | exact Below.refl _ _ | refine Below.alloc ?_ (by simp <;> omega) _)
  simp only [World.size_alloc] at k2 k3
  have q1 : exC = #[.int .i64 1, .int .i64 100, .int .i64 5, .int .i64 3, .int .i64 200, .int .i64 (-1), .int .i64 4, .int .i64 300, .int .i64 (-1), .int .i64 5, .int .i64 400, .int .i64 (-1), .int .i64 7, .int .i64 2592400, .int .i64 (-1), .int .i64 1, .int .i64 2592400, .int .i64 6] := rfl
  have q2 : tmC = #[.int .i64 99, .int .i64 100, .int .i64 250, .int .i64 400, .int .i64 2592400] := rfl
  have q3 : wtC = #[.int .i64 0, .int .i64 (-1), .int .i64 0, .int .i64 0, .int .i64 1, .int .i64 5, .int .i64 1, .int .i64 100, .int .i64 2, .int .i64 5, .int .i64 1, .int .i64 200, .int .i64 3, .int .i64 5, .int .i64 1, .int .i64 400, .int .i64 1, .int .i64 6, .int .i64 2, .int .i64 2592400] := rfl
  rw [← q1, ← q2, ← q3]
  generalize ((w.alloc (.cells exC 54)).alloc (.cells tmC 3)).alloc (.cells wtC 26) = W3 at k1 k2 k3 hB ⊢
  clear q1 q2 q3
  go_wp2_with fail
  go_loopw [4] (fun i wr => ∃ k : Nat, i = .int .i64 k ∧ k ≤ 5 ∧ Blk wr w.heap.size exC 54 ∧ Blk wr (w.heap.size + 1) tmC 3 ∧ Blk wr (w.heap.size + 1 + 1) wtC 26 ∧ Below w.heap.size w wr) (fun i _ => 5 - (intOf i).toNat)
  case atStart => exact ⟨0, rfl, by omega, k1, k2, k3, hB⟩
  case round =>
    clear k1 k2 k3 hB
    obtain ⟨k, rfl, hk, k1, k2, k3, hB⟩ := hrel
    by_cases hlt : k < 5
    · obtain ⟨T, a, b, c, d, t0, x0, x1, x2, x3, hat, hval⟩ := ex_times k hlt
      have cT := k2.cell k t0
      go_upto_region 8 with (go_at_call 25; refine (CA.out _ _ _ (ex_in k1)).mono ?_; rw [hat]; dsimp only [stepV, Ln.v]; rintro e w5 ⟨rfl, hw5⟩)
      have n1 := (k1.below hw5 k1.lt).alloc (.cells #[.int .i64 a, .int .i64 b, .int .i64 c, .int .i64 d] 26)
      have n2 := (k2.below hw5 k2.lt).alloc (.cells #[.int .i64 a, .int .i64 b, .int .i64 c, .int .i64 d] 26)
      have n3 := (k3.below hw5 k3.lt).alloc (.cells #[.int .i64 a, .int .i64 b, .int .i64 c, .int .i64 d] 26)
      have nl := Blk.new w5 #[.int .i64 a, .int .i64 b, .int .i64 c, .int .i64 d] 26
      have nB := (hB.trans (hw5.mono hB.size)).alloc (hB.trans (hw5.mono hB.size)).size (.cells #[.int .i64 a, .int .i64 b, .int .i64 c, .int .i64 d] 26)
      generalize w5.alloc (.cells #[.int .i64 a, .int .i64 b, .int .i64 c, .int .i64 d] 26) = W6 at n1 n2 n3 nl nB ⊢
      clear k1 k2 k3 hB cT t0 hw5 hat
      have V2 := Lib.hid (fun W => (show Calls Try.prog 22 #[.agg #[.int .i64 a, .int .i64 b, .int .i64 c, .int .i64 d]] W fun e w' => e = .returned (.bool true) ∧ Below W.heap.size W w' from by have := valid_any ⟨a, b, c, d⟩ W; rw [hval] at this; exact this))
      have d0 := cell_regrown (nl.cell 0 rfl)
      have d1 := cell_regrown (nl.cell 1 rfl)
      have d2 := cell_regrown (nl.cell 2 rfl)
      have d3 := cell_regrown (nl.cell 3 rfl)
      have g0 := cell_regrown (n3.cell _ x0)
      have g1 := cell_regrown (n3.cell _ x1)
      have g2 := cell_regrown (n3.cell _ x2)
      have g3 := cell_regrown (n3.cell _ x3)
      clear x0 x1 x2 x3
      refine wp_region_quiet_below (by kernel_rfl) (by kernel_rfl) ?_
      repeat (go_big_quiet_step (first | (go_at_call 22; with_reducible refine Calls.regrown_of (V2.out _))))
      refine wpQuiet_nil ?_
      rintro w4 ⟨p4, rfl⟩
      have n1' := n1.below (below_regrown W6 p4.d p4.os) n1.lt
      have n2' := n2.below (below_regrown W6 p4.d p4.os) n2.lt
      have n3' := n3.below (below_regrown W6 p4.d p4.os) n3.lt
      have nB' := nB.trans ((below_regrown W6 p4.d p4.os).mono nB.size)
      clear n1 n2 n3 nB nl d0 d1 d2 d3 g0 g1 g2 g3
      generalize Sort.grow (redrawn W6 p4.d) p4.os = w4 at n1' n2' n3' nB' ⊢
      go_wp2
      go_roundw
      case rel => exact ⟨k + 1, by go_num, by omega, n1', n2', n3', nB'⟩
      case measure => simp [intOf]; omega
    · obtain rfl : k = 5 := by omega
      clear CA CV k2
      go_upto_region 14 with (go_at_call 27; refine (CK.out _ _ (ex_in k1)).mono ?_; rintro e w5 ⟨rfl, hw5⟩)
      have n1 := ((((k1.below hw5 k1.lt).alloc (.cells #[.int .i64 1, .int .i64 250] 28)).alloc (.cells #[.int .i64 250, .int .i64 300, .int .i64 400, .int .i64 2592400] 3)).alloc (.cells #[.int .i64 2, .int .i64 1, .int .i64 2, .int .i64 3] 3)).alloc (.cells #[.int .i64 (-1), .int .i64 5, .int .i64 (-1), .int .i64 (-1)] 3)
      have n3 := ((((k3.below hw5 k3.lt).alloc (.cells #[.int .i64 1, .int .i64 250] 28)).alloc (.cells #[.int .i64 250, .int .i64 300, .int .i64 400, .int .i64 2592400] 3)).alloc (.cells #[.int .i64 2, .int .i64 1, .int .i64 2, .int .i64 3] 3)).alloc (.cells #[.int .i64 (-1), .int .i64 5, .int .i64 (-1), .int .i64 (-1)] 3)
      have nM := (((Blk.new w5 #[.int .i64 1, .int .i64 250] 28).alloc (.cells #[.int .i64 250, .int .i64 300, .int .i64 400, .int .i64 2592400] 3)).alloc (.cells #[.int .i64 2, .int .i64 1, .int .i64 2, .int .i64 3] 3)).alloc (.cells #[.int .i64 (-1), .int .i64 5, .int .i64 (-1), .int .i64 (-1)] 3)
      have nW := ((Blk.new (w5.alloc (.cells #[.int .i64 1, .int .i64 250] 28)) #[.int .i64 250, .int .i64 300, .int .i64 400, .int .i64 2592400] 3).alloc (.cells #[.int .i64 2, .int .i64 1, .int .i64 2, .int .i64 3] 3)).alloc (.cells #[.int .i64 (-1), .int .i64 5, .int .i64 (-1), .int .i64 (-1)] 3)
      have nF := (Blk.new ((w5.alloc (.cells #[.int .i64 1, .int .i64 250] 28)).alloc (.cells #[.int .i64 250, .int .i64 300, .int .i64 400, .int .i64 2592400] 3)) #[.int .i64 2, .int .i64 1, .int .i64 2, .int .i64 3] 3).alloc (.cells #[.int .i64 (-1), .int .i64 5, .int .i64 (-1), .int .i64 (-1)] 3)
      have nH := Blk.new (((w5.alloc (.cells #[.int .i64 1, .int .i64 250] 28)).alloc (.cells #[.int .i64 250, .int .i64 300, .int .i64 400, .int .i64 2592400] 3)).alloc (.cells #[.int .i64 2, .int .i64 1, .int .i64 2, .int .i64 3] 3)) #[.int .i64 (-1), .int .i64 5, .int .i64 (-1), .int .i64 (-1)] 3
      have hB5 := hB.trans (hw5.mono hB.size)
      have hm := (k3.below hw5 k3.lt).lt
      have b1 := hB5.alloc hB5.size (.cells #[.int .i64 1, .int .i64 250] 28)
      have b2 := b1.alloc b1.size (.cells #[.int .i64 250, .int .i64 300, .int .i64 400, .int .i64 2592400] 3)
      have b3 := b2.alloc b2.size (.cells #[.int .i64 2, .int .i64 1, .int .i64 2, .int .i64 3] 3)
      have nB := b3.alloc b3.size (.cells #[.int .i64 (-1), .int .i64 5, .int .i64 (-1), .int .i64 (-1)] 3)
      clear b1 b2 b3
      simp only [World.size_alloc] at nW nF nH
      generalize (((w5.alloc (.cells #[.int .i64 1, .int .i64 250] 28)).alloc (.cells #[.int .i64 250, .int .i64 300, .int .i64 400, .int .i64 2592400] 3)).alloc (.cells #[.int .i64 2, .int .i64 1, .int .i64 2, .int .i64 3] 3)).alloc (.cells #[.int .i64 (-1), .int .i64 5, .int .i64 (-1), .int .i64 (-1)] 3) = W6 at n1 n3 nM nW nF nH nB ⊢
      generalize w5.heap.size = m at nM nW nF nH hm ⊢
      clear k1 k3 hB hw5 hB5 CK
      go_wp2_with fail
      go_loopw [12] (fun i wr => ∃ k : Nat, i = .int .i64 k ∧ k ≤ 4 ∧ Blk wr w.heap.size exC 54 ∧ Blk wr (w.heap.size + 1 + 1) wtC 26 ∧ Blk wr m #[.int .i64 1, .int .i64 250] 28 ∧ Blk wr (m + 1) #[.int .i64 250, .int .i64 300, .int .i64 400, .int .i64 2592400] 3 ∧ Blk wr (m + 1 + 1) #[.int .i64 2, .int .i64 1, .int .i64 2, .int .i64 3] 3 ∧ Blk wr (m + 1 + 1 + 1) #[.int .i64 (-1), .int .i64 5, .int .i64 (-1), .int .i64 (-1)] 3 ∧ Below w.heap.size w wr) (fun i _ => 4 - (intOf i).toNat)
      case atStart => exact ⟨0, rfl, by omega, n1, n3, nM, nW, nF, nH, nB⟩
      case round =>
        clear n1 n3 nM nW nF nH nB
        obtain ⟨k, rfl, hk, k1, k3, kM, kW, kF, kH, hB⟩ := hrel
        by_cases hlt : k < 4
        · obtain ⟨T, f, h, t0, t1, t2, hft⟩ := ex_fates k hlt
          have CF2 := Lib.hid (fun d os => (show Calls Try.prog 30 #[.slice (some ⟨w.heap.size, 0, none⟩) 6 6, .agg #[.int .i64 1, .int .i64 250], .int .i64 T] (Sort.grow (redrawn wr d) os) fun e w' => e = .returned (.tuple #[.int .i64 f, .int .i64 h, .int .i64 0]) ∧ Below (Sort.grow (redrawn wr d) os).heap.size (Sort.grow (redrawn wr d) os) w' from by
            have := CF.out (some ⟨w.heap.size, 0, none⟩) T (Sort.grow (redrawn wr d) os) ((ex_in k1).below (below_regrown wr d os) (Nat.le_refl _))
            rw [hft] at this
            exact this))
          have d0 := cell_regrown (kM.cell 0 rfl)
          have d1 := cell_regrown (kM.cell 1 rfl)
          have d2 := cell_regrown (kW.cell k t0)
          have hin : k < 4 := hlt
          clear t0 hft
          go_wp2_with fail
          refine wp_region_quiet_below (by kernel_rfl) (by kernel_rfl) ?_
          repeat (go_big_quiet_step (first | (go_at_call 30; with_reducible refine Calls.regrown_of (CF2.out _ _))))
          refine wpQuiet_nil ?_
          rintro w4 ⟨p4, rfl⟩
          have e1 := k1.below (below_regrown wr p4.d p4.os) k1.lt
          have e3 := k3.below (below_regrown wr p4.d p4.os) k3.lt
          have eM := kM.below (below_regrown wr p4.d p4.os) kM.lt
          have eW := kW.below (below_regrown wr p4.d p4.os) kW.lt
          have eF := kF.below (below_regrown wr p4.d p4.os) kF.lt
          have eH := kH.below (below_regrown wr p4.d p4.os) kH.lt
          have eB := hB.trans ((below_regrown wr p4.d p4.os).mono hB.size)
          clear k1 k3 kM kW kF kH hB d0 d1 d2 CF2
          generalize Sort.grow (redrawn wr p4.d) p4.os = w4 at e1 e3 eM eW eF eH eB ⊢
          have cf := eF.cell k t1
          have ch := eH.cell k t2
          clear t1 t2
          go_wp2
          go_roundw
          case rel => exact ⟨k + 1, by go_num, by omega, e1, e3, eM, eW, eF, eH, eB⟩
          case measure => simp [intOf]; omega
        · obtain rfl : k = 4 := by omega
          clear kW kF kH CF
          go_wp2_with fail
          refine (CR.out _ _ (ex_in k1)).mono ?_
          rintro e w5 ⟨rfl, hw5⟩
          have hB5 := hB.trans (hw5.mono hB.size)
          have hbL := (k3.below hw5 k3.lt).lt
          have n1 := (k1.below hw5 k1.lt).alloc (.cells #[.int .i64 1, .int .i64 6, .int .i64 2, .int .i64 2592400] 26)
          have n3 := (k3.below hw5 k3.lt).alloc (.cells #[.int .i64 1, .int .i64 6, .int .i64 2, .int .i64 2592400] 26)
          have nM := (kM.below hw5 kM.lt).alloc (.cells #[.int .i64 1, .int .i64 6, .int .i64 2, .int .i64 2592400] 26)
          have nL := Blk.new w5 #[.int .i64 1, .int .i64 6, .int .i64 2, .int .i64 2592400] 26
          have nB := hB5.alloc hB5.size (.cells #[.int .i64 1, .int .i64 6, .int .i64 2, .int .i64 2592400] 26)
          go_upto_region 21 with fail
          generalize w5.alloc (.cells #[.int .i64 1, .int .i64 6, .int .i64 2, .int .i64 2592400] 26) = W7 at n1 n3 nM nL nB ⊢
          generalize w5.heap.size = bL at nL hbL ⊢
          clear k1 k3 kM hB hw5 hB5 CR
          go_wp2_with fail
          refine (CS.out _ _ (ex_in n1)).mono ?_
          rintro e w8 ⟨v, rfl, hrow, hw8⟩
          obtain ⟨SA, sc, rfl, hS, -⟩ := syIn_row hrow
          have hSA := syIn_base hrow
          have hW7 := n1.lt
          clear hrow
          have k1 := n1.below hw8 n1.lt
          have k3 := n3.below hw8 n3.lt
          have kM := nM.below hw8 nM.lt
          have kL := nL.below hw8 nL.lt
          have hB := nB.trans (hw8.mono nB.size)
          clear n1 n3 nM nL nB hw8 CS
          have c0 := k1.cell 0 rfl
          have c1 := k1.cell 1 rfl
          have c2 := k1.cell 2 rfl
          go_wp2_with fail
          refine (CEN.out _).mono ?_
          rintro e w9 ⟨rfl, hw9⟩
          go_wp2_with fail
          refine (CDE.out _).mono ?_
          rintro e w10 ⟨rfl, hw10⟩
          have hw : Below w8.heap.size w8 w10 := hw9.trans (hw10.mono hw9.size)
          have n1 := (k1.below hw k1.lt).alloc (.cells #[.int .i64 1, .int .i64 100, .int .i64 5] 54)
          have n3 := (k3.below hw k3.lt).alloc (.cells #[.int .i64 1, .int .i64 100, .int .i64 5] 54)
          have nM := (kM.below hw kM.lt).alloc (.cells #[.int .i64 1, .int .i64 100, .int .i64 5] 54)
          have nL := (kL.below hw kL.lt).alloc (.cells #[.int .i64 1, .int .i64 100, .int .i64 5] 54)
          have nE := Blk.new w10 #[.int .i64 1, .int .i64 100, .int .i64 5] 54
          have hBw := hB.trans (hw.mono hB.size)
          have nB := hBw.alloc hBw.size (.cells #[.int .i64 1, .int .i64 100, .int .i64 5] 54)
          have nS := (hS.below hw (Nat.le_refl _)).below ((Below.refl _ w10).alloc (Nat.le_refl _) (.cells #[.int .i64 1, .int .i64 100, .int .i64 5] 54)) (Nat.le_refl _)
          go_upto_region 24 with fail
          generalize w10.alloc (.cells #[.int .i64 1, .int .i64 100, .int .i64 5] 54) = W11 at n1 n3 nM nL nE nB nS ⊢
          have hbE := (k3.below hw k3.lt).lt
          generalize w10.heap.size = bE at nE hbE ⊢
          clear k1 k3 kM kL hB hS hw hw9 hw10 hBw c0 c1 c2 CEN CDE
          have c13 := n1.cell 13 rfl
          have f13 := n1.frozen 13
          go_upto_region 25 with fail
          have e1 : Blk _ w.heap.size exC2 54 := n1.set 13 (.int .i64 2592399)
          have e3 := n3.other (b' := w.heap.size) (by omega) 13 (.int .i64 2592399)
          have eM := nM.other (b' := w.heap.size) (by omega) 13 (.int .i64 2592399)
          have eL := nL.other (b' := w.heap.size) (by omega) 13 (.int .i64 2592399)
          have eE := nE.other (b' := w.heap.size) (by omega) 13 (.int .i64 2592399)
          have eS := nS.set (b := w.heap.size) (fun ad e => by have := hSA ad e; omega) 13 (.int .i64 2592399)
          have eB := nB.setCell (p := ⟨w.heap.size, 13, none⟩) (Nat.le_refl _) (.int .i64 2592399)
          generalize W11.setCell ⟨w.heap.size, 13, none⟩ (.int .i64 2592399) = W12 at e1 e3 eM eL eE eS eB ⊢
          clear n1 n3 nM nL nE nB nS c13 f13 hSA hW7
          go_wp2_with fail
          refine (CR2.out _ _ (ex_in2 e1)).mono ?_
          rintro e w5 ⟨rfl, hw5⟩
          go_upto_region 26 with fail
          have a3 := (e3.below hw5 e3.lt).alloc (.cells #[.int .i64 0, .int .i64 0, .int .i64 0, .int .i64 0] 26)
          have aM := (eM.below hw5 eM.lt).alloc (.cells #[.int .i64 0, .int .i64 0, .int .i64 0, .int .i64 0] 26)
          have aL := (eL.below hw5 eL.lt).alloc (.cells #[.int .i64 0, .int .i64 0, .int .i64 0, .int .i64 0] 26)
          have aE := (eE.below hw5 eE.lt).alloc (.cells #[.int .i64 0, .int .i64 0, .int .i64 0, .int .i64 0] 26)
          have aS := (eS.below hw5 (Nat.le_refl _)).below ((Below.refl _ w5).alloc (Nat.le_refl _) (.cells #[.int .i64 0, .int .i64 0, .int .i64 0, .int .i64 0] 26)) (Nat.le_refl _)
          have aB' := eB.trans (hw5.mono eB.size)
          have aB := aB'.alloc aB'.size (.cells #[.int .i64 0, .int .i64 0, .int .i64 0, .int .i64 0] 26)
          generalize w5.alloc (.cells #[.int .i64 0, .int .i64 0, .int .i64 0, .int .i64 0] 26) = W13 at a3 aM aL aE aS aB ⊢
          clear e1 e3 eM eL eE eS eB hw5 aB' CR2
          go_wp2_with fail
          refine (CE.out _).mono ?_
          rintro e w6 ⟨rfl, rfl⟩
          go_wp2_with fail
          refine (CK2.out _ _ (ex_in (Blk.new W13 exC _))).mono ?_
          rintro e w7 ⟨rfl, hw7⟩
          go_upto_region 27 with fail
          have hA := (Below.refl W13.heap.size W13).alloc (Nat.le_refl _) (.cells exC 54)
          have hw8 := hA.trans (hw7.mono hA.size)
          have hw9 := hw8.alloc hw8.size (.cells #[.int .i64 0, .int .i64 0] 28)
          have k3 := a3.below hw9 a3.lt
          have kM := aM.below hw9 aM.lt
          have kL := aL.below hw9 aL.lt
          have kE := aE.below hw9 aE.lt
          have kS := aS.below hw9 (Nat.le_refl _)
          have kB := aB.trans (hw9.mono aB.size)
          generalize w7.alloc (.cells #[.int .i64 0, .int .i64 0] 28) = W14 at k3 kM kL kE kS kB ⊢
          clear a3 aM aL aE aS aB hA hw7 hw8 hw9 CK2
          obtain ⟨m0, m1, -, -⟩ := mfacts kM
          obtain ⟨l0, l1, l2, l3⟩ := line_cells (st := 1) (ho := 6) (ep := 2) (si := 2592400) kL
          have w16 : W14.cell? ⟨w.heap.size + 1 + 1, 16, none⟩ = some (.int .i64 1) := k3.cell 16 rfl
          have w17 : W14.cell? ⟨w.heap.size + 1 + 1, 17, none⟩ = some (.int .i64 6) := k3.cell 17 rfl
          have w18 : W14.cell? ⟨w.heap.size + 1 + 1, 18, none⟩ = some (.int .i64 2) := k3.cell 18 rfl
          have w19 : W14.cell? ⟨w.heap.size + 1 + 1, 19, none⟩ = some (.int .i64 2592400) := k3.cell 19 rfl
          have hmix : Try.prog.follows .mixedOrders = true := by kernel_rfl
          go_quiet (fail)
          have n3 : Blk (W14.drewN nq) (w.heap.size + 1 + 1) wtC 26 := k3
          have nE : Blk (W14.drewN nq) bE #[.int .i64 1, .int .i64 100, .int .i64 5] 54 := kE
          have nS : SyIn (W14.drewN nq) SA [⟨5, 1, 100, 400⟩, ⟨6, 2, 2592400, 10000001⟩] := kS
          have nB := drewN_below nq kB
          generalize W14.drewN nq = W15 at n3 nE nS nB ⊢
          clear k3 kM kL kE kS kB m0 m1 l0 l1 l2 l3 w16 w17 w18 w19
          go_upto_region 28 with fail
          have GG : SaneS w bE SA W15 := ⟨nB, nE, nS⟩
          clear n3 nE nS nB hbL hbE hm hk hlt hmix
          have CM := Lib.hid (fun (W : World) (b : Nat) (h : SaneS w bE SA W) (hb : Blk W b #[.int .i64 5, .int .i64 1, .int .i64 100, .int .i64 400, .int .i64 6, .int .i64 2, .int .i64 2592400, .int .i64 10000001] 62) => same_any SA (some ⟨b, 0, none⟩) 2 2 sc 2 [⟨5, 1, 100, 400⟩, ⟨6, 2, 2592400, 10000001⟩] [⟨5, 1, 100, 400⟩, ⟨6, 2, 2592400, 10000001⟩] rfl rfl (by omega) W h.sy (two_in hb))
          rw [show (([⟨5, 1, 100, 400⟩, ⟨6, 2, 2592400, 10000001⟩] : List Sy) == [⟨5, 1, 100, 400⟩, ⟨6, 2, 2592400, 10000001⟩]) = true by decide] at CM
          have C31 := Lib.hid (fun W => (show Calls Try.prog 34 #[.agg #[.int .i64 1, .int .i64 100, .int .i64 5]] W fun e w' => e = .returned (.bool true) ∧ Below W.heap.size W w' from formed_any ⟨1, 100, 5⟩ W))
          have C32 := Lib.hid (fun W => (show Calls Try.prog 34 #[.agg #[.int .i64 3, .int .i64 0, .int .i64 0]] W fun e w' => e = .returned (.bool false) ∧ Below W.heap.size W w' from formed_any ⟨3, 0, 0⟩ W))
          have C33 := Lib.hid (fun W => (show Calls Try.prog 22 #[.agg #[.int .i64 0, .int .i64 0, .int .i64 0, .int .i64 0]] W fun e w' => e = .returned (.bool false) ∧ Below W.heap.size W w' from valid_any zeroL W))
          refine wp_region_held_drew (S := fun W => W.cell? ⟨bE, 0, none⟩ = some (.int .i64 1) ∧ W.cell? ⟨bE, 1, none⟩ = some (.int .i64 100) ∧ W.cell? ⟨bE, 2, none⟩ = some (.int .i64 5) ∧ SaneS w bE SA W) (by kernel_rfl) ?_ (fun hHeld => ?_)
          focus ((try dsimp only); (refine sane_of ?_; repeat (first | assumption | exact And.right (And.right (And.right (by assumption))) | refine SaneS.drew ?_ | refine SaneS.alloc ?_ _)))
          refine wpAnyH_take (i := 0) (v := ?_) rfl (by kernel_rfl) (by kernel_rfl) (by kernel_rfl) (fun _ _ _ h => h) (Or.inl ⟨by kernel_rfl, ?_⟩) (by assumption) ?_
          rotate_left
          focus (intro w hSw; (try dsimp only at hSw); go_simp; first | done | with_reducible rfl)
          try simp only [Act.put, List.setIfInBounds_toArray, List.set_cons_zero, List.set_cons_succ]
          refine wpAnyH_take (i := 1) (v := ?_) rfl (by kernel_rfl) (by kernel_rfl) (by kernel_rfl) (fun _ _ _ h => h) (Or.inl ⟨by kernel_rfl, ?_⟩) (by assumption) ?_
          rotate_left
          focus (intro w hSw; (try dsimp only at hSw); go_simp; first | done | with_reducible rfl)
          try simp only [Act.put, List.setIfInBounds_toArray, List.set_cons_zero, List.set_cons_succ]
          refine wpAnyH_take (i := 2) (v := ?_) rfl (by kernel_rfl) (by kernel_rfl) (by kernel_rfl) (fun _ _ _ h => h) (Or.inl ⟨by kernel_rfl, ?_⟩) (by assumption) ?_
          rotate_left
          focus (intro w hSw; (try dsimp only at hSw); go_simp; first | done | with_reducible rfl)
          try simp only [Act.put, List.setIfInBounds_toArray, List.set_cons_zero, List.set_cons_succ]
          refine wpAnyH_take (i := 3) (v := ?_) rfl (by kernel_rfl) (by kernel_rfl) (by kernel_rfl) (fun _ _ _ h => h) (Or.inl ⟨by kernel_rfl, ?_⟩) (by assumption) ?_
          rotate_left
          focus (intro w hSw; (try dsimp only at hSw); go_simp; first | done | with_reducible rfl)
          try simp only [Act.put, List.setIfInBounds_toArray, List.set_cons_zero, List.set_cons_succ]
          refine wpAnyH_take (i := 4) (v := ?_) rfl (by kernel_rfl) (by kernel_rfl) (by kernel_rfl) (fun _ _ _ h => h) (Or.inl ⟨by kernel_rfl, ?_⟩) (by assumption) ?_
          rotate_left
          focus (intro w hSw; (try dsimp only at hSw); go_simp; first | done | with_reducible rfl)
          try simp only [Act.put, List.setIfInBounds_toArray, List.set_cons_zero, List.set_cons_succ]
          refine wpAnyH_take (i := 5) (v := ?_) rfl (by kernel_rfl) (by kernel_rfl) (by kernel_rfl) (fun _ _ _ h => h) (Or.inl ⟨by kernel_rfl, ?_⟩) (by assumption) ?_
          rotate_left
          focus (intro w hSw; (try dsimp only at hSw); go_simp; first | done | with_reducible rfl)
          try simp only [Act.put, List.setIfInBounds_toArray, List.set_cons_zero, List.set_cons_succ]
          refine wpAnyH_take (i := 6) (v := ?_) rfl (by kernel_rfl) (by kernel_rfl) (by kernel_rfl) (fun _ _ _ h => h) (Or.inl ⟨by kernel_rfl, ?_⟩) (by assumption) ?_
          rotate_left
          focus (intro w hSw; (try dsimp only at hSw); go_simp; first | done | with_reducible rfl)
          try simp only [Act.put, List.setIfInBounds_toArray, List.set_cons_zero, List.set_cons_succ]
          refine wpAnyH_take (i := 7) (v := ?_) rfl (by kernel_rfl) (by kernel_rfl) (by kernel_rfl) (fun _ _ _ h => h) (Or.inl ⟨by kernel_rfl, ?_⟩) (by assumption) ?_
          rotate_left
          focus (intro w hSw; (try dsimp only at hSw); go_simp; first | done | with_reducible rfl)
          try simp only [Act.put, List.setIfInBounds_toArray, List.set_cons_zero, List.set_cons_succ]
          refine wpAnyH_ready (rs := [8]) (by kernel_rfl) (by simp) ?_
          refine AllReadyH.cons rfl (fun K hK => ?_) AllReadyH.nil
          go_simp
          refine hK.out _ _ ?_ (fun hHeld => ?_)
          focus ((try dsimp only); (refine sane_of ?_; repeat (first | assumption | exact And.right (And.right (And.right (by assumption))) | refine SaneS.drew ?_ | refine SaneS.alloc ?_ _)))
          clear hK K
          refine wpAnyH_ready (rs := [9]) (by kernel_rfl) (by simp) ?_
          refine AllReadyH.cons rfl (fun K hK => ?_) AllReadyH.nil
          go_simp
          go_wp2_with (go_at_call 21; refine (CM.out _ _ (And.right (And.right (And.right (by assumption)))) (Blk.drew (Blk.new _ _ _))).mono ?_; rintro e w3 ⟨rfl, hB3⟩; have G3 := SaneS.on (w := w) (bE := bE) (SA := SA) (And.right (And.right (And.right (by assumption)))) hB3)
          refine hK.out _ _ ?_ (fun hHeld => ?_)
          focus ((try dsimp only); (refine sane_of ?_; repeat (first | assumption | exact And.right (And.right (And.right (by assumption))) | refine SaneS.drew ?_ | refine SaneS.alloc ?_ _)))
          clear hK K
          refine wpAnyH_take (i := 10) (v := ?_) rfl (by kernel_rfl) (by kernel_rfl) (by kernel_rfl) (fun _ _ _ h => h) (Or.inl ⟨by kernel_rfl, ?_⟩) (by assumption) ?_
          rotate_left
          focus (intro w hSw; (try dsimp only at hSw); go_simp; first | done | with_reducible rfl)
          try simp only [Act.put, List.setIfInBounds_toArray, List.set_cons_zero, List.set_cons_succ]
          refine wpAnyH_take (i := 11) (v := ?_) rfl (by kernel_rfl) (by kernel_rfl) (by kernel_rfl) (fun _ _ _ h => h) (Or.inl ⟨by kernel_rfl, ?_⟩) (by assumption) ?_
          rotate_left
          focus (intro w hSw; (try dsimp only at hSw); go_simp; first | done | with_reducible rfl)
          try simp only [Act.put, List.setIfInBounds_toArray, List.set_cons_zero, List.set_cons_succ]
          refine wpAnyH_take (i := 12) (v := ?_) rfl (by kernel_rfl) (by kernel_rfl) (by kernel_rfl) (fun _ _ _ h => h) (Or.inl ⟨by kernel_rfl, ?_⟩) (by assumption) ?_
          rotate_left
          focus (intro w hSw; (try dsimp only at hSw); go_simp; first | done | with_reducible rfl)
          try simp only [Act.put, List.setIfInBounds_toArray, List.set_cons_zero, List.set_cons_succ]
          refine wpAnyH_take (i := 13) (v := ?_) rfl (by kernel_rfl) (by kernel_rfl) (by kernel_rfl) (fun _ _ _ h => h) (Or.inl ⟨by kernel_rfl, ?_⟩) (by assumption) ?_
          rotate_left
          focus (intro w hSw; (try dsimp only at hSw); go_simp; first | done | with_reducible rfl)
          try simp only [Act.put, List.setIfInBounds_toArray, List.set_cons_zero, List.set_cons_succ]
          refine wpAnyH_take (i := 14) (v := ?_) rfl (by kernel_rfl) (by kernel_rfl) (by kernel_rfl) (fun _ _ _ h => h) (Or.inl ⟨by kernel_rfl, ?_⟩) (by assumption) ?_
          rotate_left
          focus (intro w hSw; (try dsimp only at hSw); go_simp; first | done | with_reducible rfl)
          try simp only [Act.put, List.setIfInBounds_toArray, List.set_cons_zero, List.set_cons_succ]
          refine wpAnyH_take (i := 15) (v := ?_) rfl (by kernel_rfl) (by kernel_rfl) (by kernel_rfl) (fun _ _ _ h => h) (Or.inl ⟨by kernel_rfl, ?_⟩) (by assumption) ?_
          rotate_left
          focus (intro w hSw; (try dsimp only at hSw); go_simp; first | done | with_reducible rfl)
          try simp only [Act.put, List.setIfInBounds_toArray, List.set_cons_zero, List.set_cons_succ]
          refine wpAnyH_take (i := 16) (v := ?_) rfl (by kernel_rfl) (by kernel_rfl) (by kernel_rfl) (fun _ _ _ h => h) (Or.inl ⟨by kernel_rfl, ?_⟩) (by assumption) ?_
          rotate_left
          focus (intro w hSw; (try dsimp only at hSw); go_simp; first | done | with_reducible rfl)
          try simp only [Act.put, List.setIfInBounds_toArray, List.set_cons_zero, List.set_cons_succ]
          refine wpAnyH_take (i := 17) (v := ?_) rfl (by kernel_rfl) (by kernel_rfl) (by kernel_rfl) (fun _ _ _ h => h) (Or.inl ⟨by kernel_rfl, ?_⟩) (by assumption) ?_
          rotate_left
          focus (intro w hSw; (try dsimp only at hSw); go_simp; first | done | with_reducible rfl)
          try simp only [Act.put, List.setIfInBounds_toArray, List.set_cons_zero, List.set_cons_succ]
          refine wpAnyH_take (i := 18) (v := ?_) rfl (by kernel_rfl) (by kernel_rfl) (by kernel_rfl) (fun _ _ _ h => h) (Or.inl ⟨by kernel_rfl, ?_⟩) (by assumption) ?_
          rotate_left
          focus (intro w hSw; (try dsimp only at hSw); go_simp; first | done | with_reducible rfl)
          try simp only [Act.put, List.setIfInBounds_toArray, List.set_cons_zero, List.set_cons_succ]
          refine wpAnyH_take (i := 19) (v := ?_) rfl (by kernel_rfl) (by kernel_rfl) (by kernel_rfl) (fun _ _ _ h => h) (Or.inl ⟨by kernel_rfl, ?_⟩) (by assumption) ?_
          rotate_left
          focus (intro w hSw; (try dsimp only at hSw); go_simp; first | done | with_reducible rfl)
          try simp only [Act.put, List.setIfInBounds_toArray, List.set_cons_zero, List.set_cons_succ]
          refine wpAnyH_take (i := 20) (v := ?_) rfl (by kernel_rfl) (by kernel_rfl) (by kernel_rfl) (fun _ _ _ h => h) (Or.inl ⟨by kernel_rfl, ?_⟩) (by assumption) ?_
          rotate_left
          focus (intro w hSw; (try dsimp only at hSw); go_simp; first | done | with_reducible rfl)
          try simp only [Act.put, List.setIfInBounds_toArray, List.set_cons_zero, List.set_cons_succ]
          refine wpAnyH_take (i := 21) (v := ?_) rfl (by kernel_rfl) (by kernel_rfl) (by kernel_rfl) (fun _ _ _ h => h) (Or.inl ⟨by kernel_rfl, ?_⟩) (by assumption) ?_
          rotate_left
          focus (intro w hSw; (try dsimp only at hSw); go_simp; first | done | with_reducible rfl)
          try simp only [Act.put, List.setIfInBounds_toArray, List.set_cons_zero, List.set_cons_succ]
          refine wpAnyH_take (i := 22) (v := ?_) rfl (by kernel_rfl) (by kernel_rfl) (by kernel_rfl) (fun _ _ _ h => h) (Or.inl ⟨by kernel_rfl, ?_⟩) (by assumption) ?_
          rotate_left
          focus (intro w hSw; (try dsimp only at hSw); go_simp; first | done | with_reducible rfl)
          try simp only [Act.put, List.setIfInBounds_toArray, List.set_cons_zero, List.set_cons_succ]
          refine wpAnyH_take (i := 23) (v := ?_) rfl (by kernel_rfl) (by kernel_rfl) (by kernel_rfl) (fun _ _ _ h => h) (Or.inl ⟨by kernel_rfl, ?_⟩) (by assumption) ?_
          rotate_left
          focus (intro w hSw; (try dsimp only at hSw); go_simp; first | done | with_reducible rfl)
          try simp only [Act.put, List.setIfInBounds_toArray, List.set_cons_zero, List.set_cons_succ]
          refine wpAnyH_take (i := 24) (v := ?_) rfl (by kernel_rfl) (by kernel_rfl) (by kernel_rfl) (fun _ _ _ h => h) (Or.inl ⟨by kernel_rfl, ?_⟩) (by assumption) ?_
          rotate_left
          focus (intro w hSw; (try dsimp only at hSw); go_simp; first | done | with_reducible rfl)
          try simp only [Act.put, List.setIfInBounds_toArray, List.set_cons_zero, List.set_cons_succ]
          refine wpAnyH_ready (rs := [25]) (by kernel_rfl) (by simp) ?_
          refine AllReadyH.cons rfl (fun K hK => ?_) AllReadyH.nil
          go_simp
          go_wp2_with (go_at_call 38; refine (CE.out _).mono ?_; rintro e w4 ⟨rfl, rfl⟩)
          refine hK.out _ _ ?_ (fun hHeld => ?_)
          focus ((try dsimp only); (refine sane_of ?_; repeat (first | assumption | exact And.right (And.right (And.right (by assumption))) | refine SaneS.drew ?_ | refine SaneS.alloc ?_ _)))
          clear hK K
          refine wpAnyH_take (i := 26) (v := ?_) rfl (by kernel_rfl) (by kernel_rfl) (by kernel_rfl) (fun _ _ _ h => h) (Or.inl ⟨by kernel_rfl, ?_⟩) (by assumption) ?_
          rotate_left
          focus (intro w hSw; (try dsimp only at hSw); go_simp; first | done | with_reducible rfl)
          try simp only [Act.put, List.setIfInBounds_toArray, List.set_cons_zero, List.set_cons_succ]
          refine wpAnyH_ready (rs := [27]) (by kernel_rfl) (by simp) ?_
          refine AllReadyH.cons rfl (fun K hK => ?_) AllReadyH.nil
          go_simp
          refine hK.out _ _ ?_ (fun hHeld => ?_)
          focus ((try dsimp only); (refine sane_of ?_; repeat (first | assumption | exact And.right (And.right (And.right (by assumption))) | refine SaneS.drew ?_ | refine SaneS.alloc ?_ _)))
          clear hK K
          refine wpAnyH_take (i := 28) (v := ?_) rfl (by kernel_rfl) (by kernel_rfl) (by kernel_rfl) (fun _ _ _ h => h) (Or.inl ⟨by kernel_rfl, ?_⟩) (by assumption) ?_
          rotate_left
          focus (intro w hSw; (try dsimp only at hSw); go_simp; first | done | with_reducible rfl)
          try simp only [Act.put, List.setIfInBounds_toArray, List.set_cons_zero, List.set_cons_succ]
          refine wpAnyH_take (i := 29) (v := ?_) rfl (by kernel_rfl) (by kernel_rfl) (by kernel_rfl) (fun _ _ _ h => h) (Or.inl ⟨by kernel_rfl, ?_⟩) (by assumption) ?_
          rotate_left
          focus (intro w hSw; (try dsimp only at hSw); go_simp; first | done | with_reducible rfl)
          try simp only [Act.put, List.setIfInBounds_toArray, List.set_cons_zero, List.set_cons_succ]
          refine wpAnyH_take (i := 30) (v := ?_) rfl (by kernel_rfl) (by kernel_rfl) (by kernel_rfl) (fun _ _ _ h => h) (Or.inl ⟨by kernel_rfl, ?_⟩) (by assumption) ?_
          rotate_left
          focus (intro w hSw; (try dsimp only at hSw); go_simp; first | done | with_reducible rfl)
          try simp only [Act.put, List.setIfInBounds_toArray, List.set_cons_zero, List.set_cons_succ]
          refine wpAnyH_done (by kernel_rfl) ?_ _
          all_goals (
            have gF := G3.alloc (.cells exC 54)
            have q1 : exC = #[.int .i64 1, .int .i64 100, .int .i64 5, .int .i64 3, .int .i64 200, .int .i64 (-1), .int .i64 4, .int .i64 300, .int .i64 (-1), .int .i64 5, .int .i64 400, .int .i64 (-1), .int .i64 7, .int .i64 2592400, .int .i64 (-1), .int .i64 1, .int .i64 2592400, .int .i64 6] := rfl
            rw [← q1]
            generalize w3.alloc (.cells exC 54) = WF at gF ⊢
            clear q1 G3 GG CM CE hB3
            obtain ⟨e0, e1, e2, -⟩ := sane_of gF
            have hB := gF.bel
            clear gF
            go_wp2_with fail
            refine (C31.out _).mono ?_
            rintro e v1 ⟨rfl, hv1⟩
            go_wp2_with fail
            refine (C32.out _).mono ?_
            rintro e v2 ⟨rfl, hv2⟩
            go_wp2_with fail
            refine (C33.out _).mono ?_
            rintro e v3 ⟨rfl, hv3⟩
            have hB1 := hB.trans (hv1.mono hB.size)
            have hB2 := hB1.trans (hv2.mono hB1.size)
            have hB3 := hB2.trans (hv3.mono hB2.size)
            clear hB hv1 hv2 hv3 hB1 hB2
            go_wp2_with fail
            go_ret
            exact ⟨rfl, hB3⟩)
end Go.Proofs.Yteilkigdlkeiaaa.Lf
