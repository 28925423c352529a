/- life.put, life.Encode, life.Decode, by their contracts. -/
import Derived.Test.YteilkigdlkeiaaaLife4
import Derived.Test.YteilkigdlkeiaaaLifeRun
import Derived.Test.YteilkigdlkeiaaaWInt
import Derived.Deep.LoopGhost
import Derived.Laws.ResultCell
namespace Go.Proofs.Yteilkigdlkeiaaa.Lf
set_option linter.unusedVariables false
set_option linter.unusedSimpArgs false
open Go Go.RowKit
open Go.Proofs.Yteilkigdlkeiaaa.PutInt (bs bs_eq bs_data bs_size)
open Go.Proofs.Yteilkigdlkeiaaa.Leb (putL intL zig_len)

theorem bs_append (l m : List UInt8) : bs l ++ bs m = bs (l ++ m) := by
  rw [← bs_eq (bs l ++ bs m)]
  congr 1

/-- the encodings of some numbers, one after the other -/
def putsL (zs : List Int) : List UInt8 := zs.flatMap fun n => (putL n).1
theorem ev_cells' {W : World} {b : Nat} {t : TypeId} {k a h' : Int} (h : Blk W b #[.int .i64 k, .int .i64 a, .int .i64 h'] t) :
    W.cell? ⟨b, 0, none⟩ = some (.int .i64 k) ∧ W.cell? ⟨b, 1, none⟩ = some (.int .i64 a) ∧ W.cell? ⟨b, 2, none⟩ = some (.int .i64 h') :=
  ⟨h.cell 0 rfl, h.cell 1 rfl, h.cell 2 rfl⟩
theorem putsL_snoc (zs : List Int) (n : Int) : putsL (zs ++ [n]) = putsL zs ++ (putL n).1 := by simp [putsL]

theorem putL_len (n : Int) : (putL n).1.length ≤ 9 := by
  unfold putL
  split
  · exact zig_len ‹_›
  · simp
theorem putsL_len : ∀ zs : List Int, (putsL zs).length ≤ 9 * zs.length
  | [] => by simp [putsL]
  | z :: zs => by
    have := putsL_len zs
    have := putL_len z
    simp only [putsL, List.flatMap_cons, List.length_append, List.length_cons] at *
    omega

set_option maxHeartbeats 1000000 in
theorem put_any (b c : Nat) (zs : List Int) (h3 : zs.length ≤ 1000) (w : World) (hz : ∀ i (h : i < zs.length), w.cell? ⟨b, i, none⟩ = some (.int .i64 zs[i])) :
    Calls Try.prog 53 #[.slice (some ⟨b, 0, none⟩) zs.length c] w fun e w' => e = .returned (.string (bs (putsL zs))) ∧ Below w.heap.size w w' := by
  have C := Lib.hid PutInt.any
  have HZ := Lib.hid hz
  generalize hn : zs.length = n at h3
  have Hn := Lib.hid hn
  clear hz hn
  go_enter Try.func53, Try.ntmps53
  go_wp2
  go_loopw [3, 10] (fun s i wr => ∃ (k : Nat), i = .int .i64 k ∧ s = .string (bs (putsL (zs.take k))) ∧ k ≤ n ∧ Below w.heap.size w wr) (fun _ i _ => n - (intOf i).toNat)
  case atStart => exact ⟨0, rfl, rfl, by omega, Below.refl _ _⟩
  case round =>
    obtain ⟨k, rfl, rfl, hk, hB⟩ := hrel
    by_cases hlt : k < n
    · have hlt' : k < zs.length := by rw [Hn.out]; exact hlt
      have hc := hB.cell (p := ⟨b, k, none⟩) (block_lt_of_cell (HZ.out k hlt'))
      rw [HZ.out k hlt'] at hc
      have hs : putsL (zs.take (k + 1)) = putsL (zs.take k) ++ (putL zs[k]).1 := by rw [List.take_add_one, List.getElem?_eq_getElem hlt', Option.toList_some, putsL_snoc]
      have HS := Lib.hid hs
      clear hs
      generalize zs[k] = z at hc HS
      have HB := Lib.hid hB
      have hsz : (bs (putsL (zs.take k))).size + (bs (putL z).1).size ≤ 9223372036854775807 := by
        rw [bs_size, bs_size]
        have := putsL_len (zs.take k)
        have := putL_len z
        rw [List.length_take] at *
        omega
      generalize putsL (zs.take k) = q at HS hsz
      go_wp2_with fail
      refine (C.out _ _).mono ?_
      rintro e w2 ⟨rfl, hw2⟩
      have hB2 := HB.out.trans (hw2.mono HB.out.size)
      generalize (putL z).1 = y at HS hsz
      generalize (putL z).2 = y2
      go_wp2
      go_roundw
      case rel => exact ⟨k + 1, by go_num, by rw [HS.out, bs_append], by omega, hB2⟩
      case measure => simp [intOf]; omega
    · obtain rfl : k = n := by omega
      rw [List.take_of_length_le (by rw [Hn.out]; exact Nat.le_refl _)]
      go_wp2
      go_ret
      exact ⟨rfl, hB⟩

def encL (e : Ev) : List UInt8 := putsL [e.k, e.a, e.h]
def encR (e : Ev) : Value := if formedB e then .tuple #[.string (bs (encL e)), .int .i64 0] else .tuple #[.string ByteArray.empty, .int .i64 140]

set_option maxHeartbeats 1000000 in
theorem encode_any (e : Ev) (w : World) :
    Calls Try.prog 36 #[e.v] w fun e' w' => e' = .returned (encR e) ∧ Below w.heap.size w w' := by
  obtain ⟨k, a, h⟩ := e
  have C1 := Lib.hid (formed_any ⟨k, a, h⟩)
  have k0 := Blk.new w #[.int .i64 k, .int .i64 a, .int .i64 h] 54
  have hB0 : Below w.heap.size w (w.alloc (.cells #[.int .i64 k, .int .i64 a, .int .i64 h] 54)) := (Below.refl _ _).alloc (Nat.le_refl _) _
  show Calls _ _ #[.agg #[.int .i64 k, .int .i64 a, .int .i64 h]] _ _
  unfold encR
  rcases hf : formedB ⟨k, a, h⟩ with _ | _
  all_goals (
    rw [hf] at C1
    go_enter Try.func36, Try.ntmps36
    go_wp2_with fail
    refine (C1.out _).mono ?_
    rintro e w1 ⟨rfl, hw1⟩
    obtain ⟨c0, c1, c2⟩ := ev_cells' (k0.below hw1 k0.lt)
    have hB1 := hB0.trans (hw1.mono hB0.size))
  · go_wp2
    go_ret2
    exact ⟨rfl, hB1⟩
  · go_wp2_with fail
    have P := put_any w1.heap.size 3 [k, a, h] (by simp) (w1.alloc (.cells #[.int .i64 k, .int .i64 a, .int .i64 h] 3)) (by
      have b1 := Blk.new w1 #[.int .i64 k, .int .i64 a, .int .i64 h] 3
      intro i hi
      match i, hi with
      | 0, _ => exact b1.cell 0 rfl
      | 1, _ => exact b1.cell 1 rfl
      | 2, _ => exact b1.cell 2 rfl)
    refine P.mono ?_
    rintro e w2 ⟨rfl, hw2⟩
    go_wp2
    go_ret2
    exact ⟨rfl, (hB1.alloc hB1.size _).trans (hw2.mono (by have := hB1.size; simp; omega))⟩

/-- what the closure of Decode does -/
theorem next_any (s : ByteArray) (hs : s.size ≤ 140737488351232) (b1 b4 b5 : Nat) (p : Int) (bad : Bool) (w : World) (k1 : Blk w b1 #[.string s] 9) (k4 : Blk w b4 #[.int .i64 p] 3) (k5 : Blk w b5 #[.bool bad] 4) (h14 : b1 ≠ b4) (h15 : b1 ≠ b5) (h45 : b4 ≠ b5) :
    Calls Try.prog 54 #[.pointer (some ⟨b1, 0, none⟩), .pointer (some ⟨b4, 0, none⟩), .pointer (some ⟨b5, 0, none⟩)] w fun e w' => e = .returned (.int .i64 (intL s.data.toList p).1) ∧
      w' = (w.setCell ⟨b5, 0, none⟩ (.bool (bad || (intL s.data.toList p).2.2 != 0))).setCell ⟨b4, 0, none⟩ (.int .i64 (intL s.data.toList p).2.1) := by
  have C := Lib.hid (fun w => IntW.any s p w hs)
  have c1 := k1.cell 0 rfl
  have c4 := k4.cell 0 rfl
  have c5 := k5.cell 0 rfl
  have f4 := k4.frozen 0
  have f5 := k5.frozen 0
  have h54 := h45.symm
  generalize intL s.data.toList p = r at C
  obtain ⟨n, tt, er⟩ := r
  dsimp only [IntW.res] at C
  cases bad
  all_goals (
    go_enter Try.func54, Try.ntmps54
    go_wp2_with fail
    refine (C.out _).mono ?_
    rintro e w1 ⟨rfl, rfl⟩
    go_wp2
    go_ret
    exact ⟨rfl, rfl⟩)

/-- what life.Decode returns -/
def decV (l : List UInt8) : Option Ev :=
  let x := intL l 0
  let y := intL l x.2.1
  let z := intL l y.2.1
  let e : Ev := ⟨x.1, y.1, z.1⟩
  if x.2.2 = 0 ∧ y.2.2 = 0 ∧ z.2.2 = 0 ∧ z.2.1 = l.length ∧ formedB e = true then some e else none
def zeroE : Ev := ⟨0, 0, 0⟩
def decR (o : Option Ev) : Value := match o with
  | some e => .tuple #[e.v, .int .i64 0]
  | none => .tuple #[zeroE.v, .int .i64 140]

set_option maxHeartbeats 4000000 in
theorem decode_any (s : ByteArray) (hs : s.size ≤ 140737488351232) (w : World) :
    Calls Try.prog 37 #[.string s] w fun e w' => e = .returned (decR (decV s.data.toList)) ∧ Below w.heap.size w w' := by
  have C := Lib.hid (fun b1 b4 b5 p bad w h1 h4 h5 e1 e2 e3 => next_any s hs b1 b4 b5 p bad w h1 h4 h5 e1 e2 e3)
  have CF := Lib.hid formed_any
  have kS := Blk.new w #[.string s] 9
  have kR := Blk.new (w.alloc (.cells #[.string s] 9)) #[.int .i64 0, .int .i64 0, .int .i64 0] 54
  have k4 := Blk.new ((w.alloc (.cells #[.string s] 9)).alloc (.cells #[.int .i64 0, .int .i64 0, .int .i64 0] 54)) #[.int .i64 0] 3
  have k5 := Blk.new (((w.alloc (.cells #[.string s] 9)).alloc (.cells #[.int .i64 0, .int .i64 0, .int .i64 0] 54)).alloc (.cells #[.int .i64 0] 3)) #[.bool false] 4
  replace kS := ((kS.alloc (.cells #[.int .i64 0, .int .i64 0, .int .i64 0] 54)).alloc (.cells #[.int .i64 0] 3)).alloc (.cells #[.bool false] 4)
  replace kR := (kR.alloc (.cells #[.int .i64 0] 3)).alloc (.cells #[.bool false] 4)
  replace k4 := k4.alloc (.cells #[.bool false] 4)
  have hB : Below w.heap.size w ((((w.alloc (.cells #[.string s] 9)).alloc (.cells #[.int .i64 0, .int .i64 0, .int .i64 0] 54)).alloc (.cells #[.int .i64 0] 3)).alloc (.cells #[.bool false] 4)) := by
    repeat (first | exact Below.refl _ _ | refine Below.alloc ?_ (by simp <;> omega) _)
  simp only [World.size_alloc] at kR k4 k5
  generalize hd : decV s.data.toList = dv
  have D : Hid (dv = decV s.data.toList) := hd.symm
  clear hd
  go_enter Try.func37, Try.ntmps37
  go_wp2_with fail
  generalize (((w.alloc (.cells #[.string s] 9)).alloc (.cells #[.int .i64 0, .int .i64 0, .int .i64 0] 54)).alloc (.cells #[.int .i64 0] 3)).alloc (.cells #[.bool false] 4) = W at kS kR k4 k5 hB ⊢
  obtain ⟨x, hx⟩ : ∃ x, intL s.data.toList 0 = x := ⟨_, rfl⟩
  obtain ⟨y, hy⟩ : ∃ y, intL s.data.toList x.2.1 = y := ⟨_, rfl⟩
  obtain ⟨z, hz⟩ : ∃ z, intL s.data.toList y.2.1 = z := ⟨_, rfl⟩
  have D' := Lib.hid (show dv = if x.2.2 = 0 ∧ y.2.2 = 0 ∧ z.2.2 = 0 ∧ z.2.1 = s.data.toList.length ∧ formedB ⟨x.1, y.1, z.1⟩ = true then some ⟨x.1, y.1, z.1⟩ else none by rw [D.out, decV, ← hz, ← hy, ← hx])
  obtain ⟨xn, xt, xe⟩ := x
  obtain ⟨yn, yt, ye⟩ := y
  obtain ⟨zn, zt, ze⟩ := z
  dsimp only at hy hz
  have q := C.out w.heap.size (w.heap.size + 1 + 1) (w.heap.size + 1 + 1 + 1) 0 false W kS k4 k5 (by omega) (by omega) (by omega)
  rw [hx] at q
  dsimp only at q
  refine q.mono ?_
  rintro e w' ⟨rfl, rfl⟩
  clear q
  generalize hb : (false || xe != 0) = g1
  have HBg1 := Lib.hid hb
  clear hb
  replace kS := (kS.other (b' := w.heap.size + 1 + 1 + 1) (by omega) 0 (.bool g1)).other (b' := w.heap.size + 1 + 1) (by omega) 0 (.int .i64 xt)
  replace kR := (kR.other (b' := w.heap.size + 1 + 1 + 1) (by omega) 0 (.bool g1)).other (b' := w.heap.size + 1 + 1) (by omega) 0 (.int .i64 xt)
  replace k4 := (k4.other (b' := w.heap.size + 1 + 1 + 1) (by omega) 0 (.bool g1)).set 0 (.int .i64 xt)
  replace k5 := (k5.set 0 (.bool g1)).other (b' := w.heap.size + 1 + 1) (by omega) 0 (.int .i64 xt)
  replace hB := (hB.setCell (p := ⟨w.heap.size + 1 + 1 + 1, 0, none⟩) (by show w.heap.size ≤ w.heap.size + 1 + 1 + 1; omega) (.bool g1)).setCell (p := ⟨w.heap.size + 1 + 1, 0, none⟩) (by show w.heap.size ≤ w.heap.size + 1 + 1; omega) (.int .i64 xt)
  generalize (W.setCell ⟨w.heap.size + 1 + 1 + 1, 0, none⟩ (.bool g1)).setCell ⟨w.heap.size + 1 + 1, 0, none⟩ (.int .i64 xt) = W1 at kS kR k4 k5 hB ⊢
  go_wp2_with fail
  have q := C.out w.heap.size (w.heap.size + 1 + 1) (w.heap.size + 1 + 1 + 1) xt g1 W1 kS k4 k5 (by omega) (by omega) (by omega)
  rw [hy] at q
  dsimp only at q
  refine q.mono ?_
  rintro e w' ⟨rfl, rfl⟩
  clear q
  generalize hb : (g1 || ye != 0) = g2
  have HBg2 := Lib.hid hb
  clear hb
  replace kS := (kS.other (b' := w.heap.size + 1 + 1 + 1) (by omega) 0 (.bool g2)).other (b' := w.heap.size + 1 + 1) (by omega) 0 (.int .i64 yt)
  replace kR := (kR.other (b' := w.heap.size + 1 + 1 + 1) (by omega) 0 (.bool g2)).other (b' := w.heap.size + 1 + 1) (by omega) 0 (.int .i64 yt)
  replace k4 := (k4.other (b' := w.heap.size + 1 + 1 + 1) (by omega) 0 (.bool g2)).set 0 (.int .i64 yt)
  replace k5 := (k5.set 0 (.bool g2)).other (b' := w.heap.size + 1 + 1) (by omega) 0 (.int .i64 yt)
  replace hB := (hB.setCell (p := ⟨w.heap.size + 1 + 1 + 1, 0, none⟩) (by show w.heap.size ≤ w.heap.size + 1 + 1 + 1; omega) (.bool g2)).setCell (p := ⟨w.heap.size + 1 + 1, 0, none⟩) (by show w.heap.size ≤ w.heap.size + 1 + 1; omega) (.int .i64 yt)
  generalize (W1.setCell ⟨w.heap.size + 1 + 1 + 1, 0, none⟩ (.bool g2)).setCell ⟨w.heap.size + 1 + 1, 0, none⟩ (.int .i64 yt) = W2 at kS kR k4 k5 hB ⊢
  go_wp2_with fail
  have q := C.out w.heap.size (w.heap.size + 1 + 1) (w.heap.size + 1 + 1 + 1) yt g2 W2 kS k4 k5 (by omega) (by omega) (by omega)
  rw [hz] at q
  dsimp only at q
  refine q.mono ?_
  rintro e w' ⟨rfl, rfl⟩
  clear q
  generalize hb : (g2 || ze != 0) = g3
  have HBg3 := Lib.hid hb
  clear hb
  replace kS := (kS.other (b' := w.heap.size + 1 + 1 + 1) (by omega) 0 (.bool g3)).other (b' := w.heap.size + 1 + 1) (by omega) 0 (.int .i64 zt)
  replace kR := (kR.other (b' := w.heap.size + 1 + 1 + 1) (by omega) 0 (.bool g3)).other (b' := w.heap.size + 1 + 1) (by omega) 0 (.int .i64 zt)
  replace k4 := (k4.other (b' := w.heap.size + 1 + 1 + 1) (by omega) 0 (.bool g3)).set 0 (.int .i64 zt)
  replace k5 := (k5.set 0 (.bool g3)).other (b' := w.heap.size + 1 + 1) (by omega) 0 (.int .i64 zt)
  replace hB := (hB.setCell (p := ⟨w.heap.size + 1 + 1 + 1, 0, none⟩) (by show w.heap.size ≤ w.heap.size + 1 + 1 + 1; omega) (.bool g3)).setCell (p := ⟨w.heap.size + 1 + 1, 0, none⟩) (by show w.heap.size ≤ w.heap.size + 1 + 1; omega) (.int .i64 zt)
  generalize (W2.setCell ⟨w.heap.size + 1 + 1 + 1, 0, none⟩ (.bool g3)).setCell ⟨w.heap.size + 1 + 1, 0, none⟩ (.int .i64 zt) = W3 at kS kR k4 k5 hB ⊢
  have hG : (g3 = false → xe = 0 ∧ ye = 0 ∧ ze = 0) ∧ (g3 = true → ¬ (xe = 0 ∧ ye = 0 ∧ ze = 0)) := by
    have h1 := HBg1.out
    have h2 := HBg2.out
    have h3 := HBg3.out
    subst h1
    subst h2
    subst h3
    by_cases a1 : xe = 0 <;> by_cases a2 : ye = 0 <;> by_cases a3 : ze = 0 <;> simp [a1, a2, a3]
  clear HBg1 HBg2 HBg3 hx hy hz
  have m5 := (k5.alloc (.cells #[.int .i64 xn, .int .i64 yn, .int .i64 zn] 54)).cell 0 rfl
  have m4 := (k4.alloc (.cells #[.int .i64 xn, .int .i64 yn, .int .i64 zn] 54)).cell 0 rfl
  have mS := (kS.alloc (.cells #[.int .i64 xn, .int .i64 yn, .int .i64 zn] 54)).cell 0 rfl
  replace kR := kR.alloc (.cells #[.int .i64 xn, .int .i64 yn, .int .i64 zn] 54)
  have kE := Blk.new W3 #[.int .i64 xn, .int .i64 yn, .int .i64 zn] 54
  replace hB := hB.alloc hB.size (.cells #[.int .i64 xn, .int .i64 yn, .int .i64 zn] 54)
  have hlen : s.data.toList.length = s.size := Array.length_toList
  cases g3
  · obtain ⟨rfl, rfl, rfl⟩ := hG.1 rfl
    rcases hzt : (zt == (s.size : Int)) with _ | _
    · have hne : zt ≠ (s.size : Int) := by intro e; rw [e, beq_self_eq_true] at hzt; cases hzt
      have hbn : (zt != (s.size : Int)) = true := by rw [bne, hzt]; rfl
      obtain rfl : dv = none := by rw [D'.out, if_neg]; rintro ⟨-, -, -, h, -⟩; rw [hlen] at h; exact hne h
      obtain ⟨r0, r1, r2⟩ := ev_cells' kR
      have f0 := kR.frozen 0
      have f1 := kR.frozen 1
      have f2 := kR.frozen 2
      clear D D'
      go_wp2_with fail
      trace_state
      refine bodyPost_ret (v := decR none) (by rw [results_cell_tmp rfl]; go_simp; try rfl) rfl ⟨rfl, ?_⟩
      repeat (first | exact hB | refine Below.drew ?_ | refine Below.setCell ?_ (by simp <;> omega) _ | refine Below.alloc ?_ (by simp <;> omega) _)
    · have he : zt = (s.size : Int) := by rw [beq_iff_eq] at hzt; exact hzt
      subst he
      have CF' := Lib.hid (CF.out ⟨xn, yn, zn⟩)
      rcases hf : formedB ⟨xn, yn, zn⟩ with _ | _
      · rw [hf] at CF'
        obtain rfl : dv = none := by rw [D'.out, if_neg]; rintro ⟨-, -, -, -, h⟩; rw [hf] at h; cases h
        clear D D' hf
        go_wp2_with fail
        refine (CF'.out _).mono ?_
        rintro e w4 ⟨rfl, hw4⟩
        obtain ⟨r0, r1, r2⟩ := ev_cells' (kR.below hw4 kR.lt)
        have f0 := (kR.below hw4 kR.lt).frozen 0
        have f1 := (kR.below hw4 kR.lt).frozen 1
        have f2 := (kR.below hw4 kR.lt).frozen 2
        replace hB := hB.trans (hw4.mono hB.size)
        go_wp2_with fail
        refine bodyPost_ret (v := decR none) (by rw [results_cell_tmp rfl]; go_simp; try rfl) rfl ⟨rfl, ?_⟩
        repeat (first | exact hB | refine Below.drew ?_ | refine Below.setCell ?_ (by simp <;> omega) _ | refine Below.alloc ?_ (by simp <;> omega) _)
      · rw [hf] at CF'
        obtain rfl : dv = some ⟨xn, yn, zn⟩ := by rw [D'.out, if_pos]; exact ⟨rfl, rfl, rfl, hlen.symm ▸ rfl, hf⟩
        clear D D' hf
        go_wp2_with fail
        refine (CF'.out _).mono ?_
        rintro e w4 ⟨rfl, hw4⟩
        obtain ⟨r0, r1, r2⟩ := ev_cells' (kR.below hw4 kR.lt)
        have f0 := (kR.below hw4 kR.lt).frozen 0
        have f1 := (kR.below hw4 kR.lt).frozen 1
        have f2 := (kR.below hw4 kR.lt).frozen 2
        obtain ⟨e0, e1, e2⟩ := ev_cells' (kE.below hw4 kE.lt)
        replace hB := hB.trans (hw4.mono hB.size)
        go_wp2_with fail
        refine bodyPost_ret (v := decR (some ⟨xn, yn, zn⟩)) (by rw [results_cell_tmp rfl]; go_simp; try rfl) rfl ⟨rfl, ?_⟩
        repeat (first | exact hB | refine Below.drew ?_ | refine Below.setCell ?_ (by simp <;> omega) _ | refine Below.alloc ?_ (by simp <;> omega) _)
  · obtain rfl : dv = none := by rw [D'.out, if_neg]; rintro ⟨h1, h2, h3, -, -⟩; exact hG.2 rfl ⟨h1, h2, h3⟩
    obtain ⟨r0, r1, r2⟩ := ev_cells' kR
    have f0 := kR.frozen 0
    have f1 := kR.frozen 1
    have f2 := kR.frozen 2
    clear D D'
    go_wp2_with fail
    refine bodyPost_ret (v := decR none) (by rw [results_cell_tmp rfl]; go_simp; try rfl) rfl ⟨rfl, ?_⟩
    repeat (first | exact hB | refine Below.drew ?_ | refine Below.setCell ?_ (by simp <;> omega) _ | refine Below.alloc ?_ (by simp <;> omega) _)
end Go.Proofs.Yteilkigdlkeiaaa.Lf
