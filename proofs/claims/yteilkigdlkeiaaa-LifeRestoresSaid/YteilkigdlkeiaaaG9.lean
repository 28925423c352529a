/- life.put, life.Encode, life.Decode, by their contracts. pick, After, Time, by their contracts (what After and Time return is not said, but of what kind it is). After, by its contract, in full. -/
import Derived.Test.YteilkigdlkeiaaaG1
import Derived.Test.YteilkigdlkeiaaaG5
import Derived.Test.YteilkigdlkeiaaaG4
import Derived.Deep.LoopGhost
import Derived.Laws.ResultCell
import Derived.Lib.MinMax
namespace Go.Proofs.Yteilkigdlkeiaaa.Lf
set_option linter.unusedVariables false
set_option linter.unusedSimpArgs false
open Go Go.RowKit
open Go.Proofs.Yteilkigdlkeiaaa.PutInt (bs bs_eq bs_data bs_size)
open Go.Proofs.Yteilkigdlkeiaaa.Leb (putL intL zig_len)

theorem bs_append (l m : List UInt8) : bs l ++ bs m = bs (l ++ m) := by
  rw [← bs_eq (bs l ++ bs m)]
  congr 1

/-- the encodings of some numbers, one after the other -/
def putsL (zs : List Int) : List UInt8 := zs.flatMap fun n => (putL n).1
theorem ev_cells' {W : World} {b : Nat} {t : TypeId} {k a h' : Int} (h : Blk W b #[.int .i64 k, .int .i64 a, .int .i64 h'] t) :
    W.cell? ⟨b, 0, none⟩ = some (.int .i64 k) ∧ W.cell? ⟨b, 1, none⟩ = some (.int .i64 a) ∧ W.cell? ⟨b, 2, none⟩ = some (.int .i64 h') :=
  ⟨h.cell 0 rfl, h.cell 1 rfl, h.cell 2 rfl⟩
theorem putsL_snoc (zs : List Int) (n : Int) : putsL (zs ++ [n]) = putsL zs ++ (putL n).1 := by simp [putsL]

theorem putL_len (n : Int) : (putL n).1.length ≤ 9 := by
  unfold putL
  split
  · exact zig_len ‹_›
  · simp
theorem putsL_len : ∀ zs : List Int, (putsL zs).length ≤ 9 * zs.length
  | [] => by simp [putsL]
  | z :: zs => by
    have := putsL_len zs
    have := putL_len z
    simp only [putsL, List.flatMap_cons, List.length_append, List.length_cons] at *
    omega

set_option maxHeartbeats 1000000 in
theorem put_any (b c : Nat) (zs : List Int) (h3 : zs.length ≤ 1000) (w : World) (hz : ∀ i (h : i < zs.length), w.cell? ⟨b, i, none⟩ = some (.int .i64 zs[i])) :
    Calls Try.prog 53 #[.slice (some ⟨b, 0, none⟩) zs.length c] w fun e w' => e = .returned (.string (bs (putsL zs))) ∧ Below w.heap.size w w' := by
  have C := Lib.hid PutInt.any
  have HZ := Lib.hid hz
  generalize hn : zs.length = n at h3
  have Hn := Lib.hid hn
  clear hz hn
  go_enter Try.func53, Try.ntmps53
  go_wp2
  go_loopw [3, 10] (fun s i wr => ∃ (k : Nat), i = .int .i64 k ∧ s = .string (bs (putsL (zs.take k))) ∧ k ≤ n ∧ Below w.heap.size w wr) (fun _ i _ => n - (intOf i).toNat)
  case atStart => exact ⟨0, rfl, rfl, by omega, Below.refl _ _⟩
  case round =>
    obtain ⟨k, rfl, rfl, hk, hB⟩ := hrel
    by_cases hlt : k < n
    · have hlt' : k < zs.length := by rw [Hn.out]; exact hlt
      have hc := hB.cell (p := ⟨b, k, none⟩) (block_lt_of_cell (HZ.out k hlt'))
      rw [HZ.out k hlt'] at hc
      have hs : putsL (zs.take (k + 1)) = putsL (zs.take k) ++ (putL zs[k]).1 := by rw [List.take_add_one, List.getElem?_eq_getElem hlt', Option.toList_some, putsL_snoc]
      have HS := Lib.hid hs
      clear hs
      generalize zs[k] = z at hc HS
      have HB := Lib.hid hB
      have hsz : (bs (putsL (zs.take k))).size + (bs (putL z).1).size ≤ 9223372036854775807 := by
        rw [bs_size, bs_size]
        have := putsL_len (zs.take k)
        have := putL_len z
        rw [List.length_take] at *
        omega
      generalize putsL (zs.take k) = q at HS hsz
      go_wp2_with fail
      refine (C.out _ _).mono ?_
      rintro e w2 ⟨rfl, hw2⟩
      have hB2 := HB.out.trans (hw2.mono HB.out.size)
      generalize (putL z).1 = y at HS hsz
      generalize (putL z).2 = y2
      go_wp2
      go_roundw
      case rel => exact ⟨k + 1, by go_num, by rw [HS.out, bs_append], by omega, hB2⟩
      case measure => simp [intOf]; omega
    · obtain rfl : k = n := by omega
      rw [List.take_of_length_le (by rw [Hn.out]; exact Nat.le_refl _)]
      go_wp2
      go_ret
      exact ⟨rfl, hB⟩

def encL (e : Ev) : List UInt8 := putsL [e.k, e.a, e.h]
def encR (e : Ev) : Value := if formedB e then .tuple #[.string (bs (encL e)), .int .i64 0] else .tuple #[.string ByteArray.empty, .int .i64 140]

set_option maxHeartbeats 1000000 in
theorem encode_any (e : Ev) (w : World) :
    Calls Try.prog 36 #[e.v] w fun e' w' => e' = .returned (encR e) ∧ Below w.heap.size w w' := by
  obtain ⟨k, a, h⟩ := e
  have C1 := Lib.hid (formed_any ⟨k, a, h⟩)
  have k0 := Blk.new w #[.int .i64 k, .int .i64 a, .int .i64 h] 54
  have hB0 : Below w.heap.size w (w.alloc (.cells #[.int .i64 k, .int .i64 a, .int .i64 h] 54)) := (Below.refl _ _).alloc (Nat.le_refl _) _
  show Calls _ _ #[.agg #[.int .i64 k, .int .i64 a, .int .i64 h]] _ _
  unfold encR
  rcases hf : formedB ⟨k, a, h⟩ with _ | _
  all_goals (
    rw [hf] at C1
    go_enter Try.func36, Try.ntmps36
    go_wp2_with fail
    refine (C1.out _).mono ?_
    rintro e w1 ⟨rfl, hw1⟩
    obtain ⟨c0, c1, c2⟩ := ev_cells' (k0.below hw1 k0.lt)
    have hB1 := hB0.trans (hw1.mono hB0.size))
  · go_wp2
    go_ret2
    exact ⟨rfl, hB1⟩
  · go_wp2_with fail
    have P := put_any w1.heap.size 3 [k, a, h] (by simp) (w1.alloc (.cells #[.int .i64 k, .int .i64 a, .int .i64 h] 3)) (by
      have b1 := Blk.new w1 #[.int .i64 k, .int .i64 a, .int .i64 h] 3
      intro i hi
      match i, hi with
      | 0, _ => exact b1.cell 0 rfl
      | 1, _ => exact b1.cell 1 rfl
      | 2, _ => exact b1.cell 2 rfl)
    refine P.mono ?_
    rintro e w2 ⟨rfl, hw2⟩
    go_wp2
    go_ret2
    exact ⟨rfl, (hB1.alloc hB1.size _).trans (hw2.mono (by have := hB1.size; simp; omega))⟩

/-- what the closure of Decode does -/
theorem next_any (s : ByteArray) (hs : s.size ≤ 140737488351232) (b1 b4 b5 : Nat) (p : Int) (bad : Bool) (w : World) (k1 : Blk w b1 #[.string s] 9) (k4 : Blk w b4 #[.int .i64 p] 3) (k5 : Blk w b5 #[.bool bad] 4) (h14 : b1 ≠ b4) (h15 : b1 ≠ b5) (h45 : b4 ≠ b5) :
    Calls Try.prog 54 #[.pointer (some ⟨b1, 0, none⟩), .pointer (some ⟨b4, 0, none⟩), .pointer (some ⟨b5, 0, none⟩)] w fun e w' => e = .returned (.int .i64 (intL s.data.toList p).1) ∧
      w' = (w.setCell ⟨b5, 0, none⟩ (.bool (bad || (intL s.data.toList p).2.2 != 0))).setCell ⟨b4, 0, none⟩ (.int .i64 (intL s.data.toList p).2.1) := by
  have C := Lib.hid (fun w => IntW.any s p w hs)
  have c1 := k1.cell 0 rfl
  have c4 := k4.cell 0 rfl
  have c5 := k5.cell 0 rfl
  have f4 := k4.frozen 0
  have f5 := k5.frozen 0
  have h54 := h45.symm
  generalize intL s.data.toList p = r at C
  obtain ⟨n, tt, er⟩ := r
  dsimp only [IntW.res] at C
  cases bad
  all_goals (
    go_enter Try.func54, Try.ntmps54
    go_wp2_with fail
    refine (C.out _).mono ?_
    rintro e w1 ⟨rfl, rfl⟩
    go_wp2
    go_ret
    exact ⟨rfl, rfl⟩)

/-- what life.Decode returns -/
def decV (l : List UInt8) : Option Ev :=
  let x := intL l 0
  let y := intL l x.2.1
  let z := intL l y.2.1
  let e : Ev := ⟨x.1, y.1, z.1⟩
  if x.2.2 = 0 ∧ y.2.2 = 0 ∧ z.2.2 = 0 ∧ z.2.1 = l.length ∧ formedB e = true then some e else none
def zeroE : Ev := ⟨0, 0, 0⟩
def decR (o : Option Ev) : Value := match o with
  | some e => .tuple #[e.v, .int .i64 0]
  | none => .tuple #[zeroE.v, .int .i64 140]

set_option maxHeartbeats 4000000 in
theorem decode_any (s : ByteArray) (hs : s.size ≤ 140737488351232) (w : World) :
    Calls Try.prog 37 #[.string s] w fun e w' => e = .returned (decR (decV s.data.toList)) ∧ Below w.heap.size w w' := by
  have C := Lib.hid (fun b1 b4 b5 p bad w h1 h4 h5 e1 e2 e3 => next_any s hs b1 b4 b5 p bad w h1 h4 h5 e1 e2 e3)
  have CF := Lib.hid formed_any
  have kS := Blk.new w #[.string s] 9
  have kR := Blk.new (w.alloc (.cells #[.string s] 9)) #[.int .i64 0, .int .i64 0, .int .i64 0] 54
  have k4 := Blk.new ((w.alloc (.cells #[.string s] 9)).alloc (.cells #[.int .i64 0, .int .i64 0, .int .i64 0] 54)) #[.int .i64 0] 3
  have k5 := Blk.new (((w.alloc (.cells #[.string s] 9)).alloc (.cells #[.int .i64 0, .int .i64 0, .int .i64 0] 54)).alloc (.cells #[.int .i64 0] 3)) #[.bool false] 4
  replace kS := ((kS.alloc (.cells #[.int .i64 0, .int .i64 0, .int .i64 0] 54)).alloc (.cells #[.int .i64 0] 3)).alloc (.cells #[.bool false] 4)
  replace kR := (kR.alloc (.cells #[.int .i64 0] 3)).alloc (.cells #[.bool false] 4)
  replace k4 := k4.alloc (.cells #[.bool false] 4)
  have hB : Below w.heap.size w ((((w.alloc (.cells #[.string s] 9)).alloc (.cells #[.int .i64 0, .int .i64 0, .int .i64 0] 54)).alloc (.cells #[.int .i64 0] 3)).alloc (.cells #[.bool false] 4)) := by
    repeat (first | exact Below.refl _ _ | refine Below.alloc ?_ (by simp <;> omega) _)
  simp only [World.size_alloc] at kR k4 k5
  generalize hd : decV s.data.toList = dv
  have D : Hid (dv = decV s.data.toList) := hd.symm
  clear hd
  go_enter Try.func37, Try.ntmps37
  go_wp2_with fail
  generalize (((w.alloc (.cells #[.string s] 9)).alloc (.cells #[.int .i64 0, .int .i64 0, .int .i64 0] 54)).alloc (.cells #[.int .i64 0] 3)).alloc (.cells #[.bool false] 4) = W at kS kR k4 k5 hB ⊢
  obtain ⟨x, hx⟩ : ∃ x, intL s.data.toList 0 = x := ⟨_, rfl⟩
  obtain ⟨y, hy⟩ : ∃ y, intL s.data.toList x.2.1 = y := ⟨_, rfl⟩
  obtain ⟨z, hz⟩ : ∃ z, intL s.data.toList y.2.1 = z := ⟨_, rfl⟩
  have D' := Lib.hid (show dv = if x.2.2 = 0 ∧ y.2.2 = 0 ∧ z.2.2 = 0 ∧ z.2.1 = s.data.toList.length ∧ formedB ⟨x.1, y.1, z.1⟩ = true then some ⟨x.1, y.1, z.1⟩ else none by rw [D.out, decV, ← hz, ← hy, ← hx])
  obtain ⟨xn, xt, xe⟩ := x
  obtain ⟨yn, yt, ye⟩ := y
  obtain ⟨zn, zt, ze⟩ := z
  dsimp only at hy hz
  have q := C.out w.heap.size (w.heap.size + 1 + 1) (w.heap.size + 1 + 1 + 1) 0 false W kS k4 k5 (by omega) (by omega) (by omega)
  rw [hx] at q
  dsimp only at q
  refine q.mono ?_
  rintro e w' ⟨rfl, rfl⟩
  clear q
  generalize hb : (false || xe != 0) = g1
  have HBg1 := Lib.hid hb
  clear hb
  replace kS := (kS.other (b' := w.heap.size + 1 + 1 + 1) (by omega) 0 (.bool g1)).other (b' := w.heap.size + 1 + 1) (by omega) 0 (.int .i64 xt)
  replace kR := (kR.other (b' := w.heap.size + 1 + 1 + 1) (by omega) 0 (.bool g1)).other (b' := w.heap.size + 1 + 1) (by omega) 0 (.int .i64 xt)
  replace k4 := (k4.other (b' := w.heap.size + 1 + 1 + 1) (by omega) 0 (.bool g1)).set 0 (.int .i64 xt)
  replace k5 := (k5.set 0 (.bool g1)).other (b' := w.heap.size + 1 + 1) (by omega) 0 (.int .i64 xt)
  replace hB := (hB.setCell (p := ⟨w.heap.size + 1 + 1 + 1, 0, none⟩) (by show w.heap.size ≤ w.heap.size + 1 + 1 + 1; omega) (.bool g1)).setCell (p := ⟨w.heap.size + 1 + 1, 0, none⟩) (by show w.heap.size ≤ w.heap.size + 1 + 1; omega) (.int .i64 xt)
  generalize (W.setCell ⟨w.heap.size + 1 + 1 + 1, 0, none⟩ (.bool g1)).setCell ⟨w.heap.size + 1 + 1, 0, none⟩ (.int .i64 xt) = W1 at kS kR k4 k5 hB ⊢
  go_wp2_with fail
  have q := C.out w.heap.size (w.heap.size + 1 + 1) (w.heap.size + 1 + 1 + 1) xt g1 W1 kS k4 k5 (by omega) (by omega) (by omega)
  rw [hy] at q
  dsimp only at q
  refine q.mono ?_
  rintro e w' ⟨rfl, rfl⟩
  clear q
  generalize hb : (g1 || ye != 0) = g2
  have HBg2 := Lib.hid hb
  clear hb
  replace kS := (kS.other (b' := w.heap.size + 1 + 1 + 1) (by omega) 0 (.bool g2)).other (b' := w.heap.size + 1 + 1) (by omega) 0 (.int .i64 yt)
  replace kR := (kR.other (b' := w.heap.size + 1 + 1 + 1) (by omega) 0 (.bool g2)).other (b' := w.heap.size + 1 + 1) (by omega) 0 (.int .i64 yt)
  replace k4 := (k4.other (b' := w.heap.size + 1 + 1 + 1) (by omega) 0 (.bool g2)).set 0 (.int .i64 yt)
  replace k5 := (k5.set 0 (.bool g2)).other (b' := w.heap.size + 1 + 1) (by omega) 0 (.int .i64 yt)
  replace hB := (hB.setCell (p := ⟨w.heap.size + 1 + 1 + 1, 0, none⟩) (by show w.heap.size ≤ w.heap.size + 1 + 1 + 1; omega) (.bool g2)).setCell (p := ⟨w.heap.size + 1 + 1, 0, none⟩) (by show w.heap.size ≤ w.heap.size + 1 + 1; omega) (.int .i64 yt)
  generalize (W1.setCell ⟨w.heap.size + 1 + 1 + 1, 0, none⟩ (.bool g2)).setCell ⟨w.heap.size + 1 + 1, 0, none⟩ (.int .i64 yt) = W2 at kS kR k4 k5 hB ⊢
  go_wp2_with fail
  have q := C.out w.heap.size (w.heap.size + 1 + 1) (w.heap.size + 1 + 1 + 1) yt g2 W2 kS k4 k5 (by omega) (by omega) (by omega)
  rw [hz] at q
  dsimp only at q
  refine q.mono ?_
  rintro e w' ⟨rfl, rfl⟩
  clear q
  generalize hb : (g2 || ze != 0) = g3
  have HBg3 := Lib.hid hb
  clear hb
  replace kS := (kS.other (b' := w.heap.size + 1 + 1 + 1) (by omega) 0 (.bool g3)).other (b' := w.heap.size + 1 + 1) (by omega) 0 (.int .i64 zt)
  replace kR := (kR.other (b' := w.heap.size + 1 + 1 + 1) (by omega) 0 (.bool g3)).other (b' := w.heap.size + 1 + 1) (by omega) 0 (.int .i64 zt)
  replace k4 := (k4.other (b' := w.heap.size + 1 + 1 + 1) (by omega) 0 (.bool g3)).set 0 (.int .i64 zt)
  replace k5 := (k5.set 0 (.bool g3)).other (b' := w.heap.size + 1 + 1) (by omega) 0 (.int .i64 zt)
  replace hB := (hB.setCell (p := ⟨w.heap.size + 1 + 1 + 1, 0, none⟩) (by show w.heap.size ≤ w.heap.size + 1 + 1 + 1; omega) (.bool g3)).setCell (p := ⟨w.heap.size + 1 + 1, 0, none⟩) (by show w.heap.size ≤ w.heap.size + 1 + 1; omega) (.int .i64 zt)
  generalize (W2.setCell ⟨w.heap.size + 1 + 1 + 1, 0, none⟩ (.bool g3)).setCell ⟨w.heap.size + 1 + 1, 0, none⟩ (.int .i64 zt) = W3 at kS kR k4 k5 hB ⊢
  have hG : (g3 = false → xe = 0 ∧ ye = 0 ∧ ze = 0) ∧ (g3 = true → ¬ (xe = 0 ∧ ye = 0 ∧ ze = 0)) := by
    have h1 := HBg1.out
    have h2 := HBg2.out
    have h3 := HBg3.out
    subst h1
    subst h2
    subst h3
    by_cases a1 : xe = 0 <;> by_cases a2 : ye = 0 <;> by_cases a3 : ze = 0 <;> simp [a1, a2, a3]
  clear HBg1 HBg2 HBg3 hx hy hz
  have m5 := (k5.alloc (.cells #[.int .i64 xn, .int .i64 yn, .int .i64 zn] 54)).cell 0 rfl
  have m4 := (k4.alloc (.cells #[.int .i64 xn, .int .i64 yn, .int .i64 zn] 54)).cell 0 rfl
  have mS := (kS.alloc (.cells #[.int .i64 xn, .int .i64 yn, .int .i64 zn] 54)).cell 0 rfl
  replace kR := kR.alloc (.cells #[.int .i64 xn, .int .i64 yn, .int .i64 zn] 54)
  have kE := Blk.new W3 #[.int .i64 xn, .int .i64 yn, .int .i64 zn] 54
  replace hB := hB.alloc hB.size (.cells #[.int .i64 xn, .int .i64 yn, .int .i64 zn] 54)
  have hlen : s.data.toList.length = s.size := Array.length_toList
  cases g3
  · obtain ⟨rfl, rfl, rfl⟩ := hG.1 rfl
    rcases hzt : (zt == (s.size : Int)) with _ | _
    · have hne : zt ≠ (s.size : Int) := by intro e; rw [e, beq_self_eq_true] at hzt; cases hzt
      have hbn : (zt != (s.size : Int)) = true := by rw [bne, hzt]; rfl
      obtain rfl : dv = none := by rw [D'.out, if_neg]; rintro ⟨-, -, -, h, -⟩; rw [hlen] at h; exact hne h
      obtain ⟨r0, r1, r2⟩ := ev_cells' kR
      have f0 := kR.frozen 0
      have f1 := kR.frozen 1
      have f2 := kR.frozen 2
      clear D D'
      go_wp2_with fail
      trace_state
      refine bodyPost_ret (v := decR none) (by rw [results_cell_tmp rfl]; go_simp; try rfl) rfl ⟨rfl, ?_⟩
      repeat (first | exact hB | refine Below.drew ?_ | refine Below.setCell ?_ (by simp <;> omega) _ | refine Below.alloc ?_ (by simp <;> omega) _)
    · have he : zt = (s.size : Int) := by rw [beq_iff_eq] at hzt; exact hzt
      subst he
      have CF' := Lib.hid (CF.out ⟨xn, yn, zn⟩)
      rcases hf : formedB ⟨xn, yn, zn⟩ with _ | _
      · rw [hf] at CF'
        obtain rfl : dv = none := by rw [D'.out, if_neg]; rintro ⟨-, -, -, -, h⟩; rw [hf] at h; cases h
        clear D D' hf
        go_wp2_with fail
        refine (CF'.out _).mono ?_
        rintro e w4 ⟨rfl, hw4⟩
        obtain ⟨r0, r1, r2⟩ := ev_cells' (kR.below hw4 kR.lt)
        have f0 := (kR.below hw4 kR.lt).frozen 0
        have f1 := (kR.below hw4 kR.lt).frozen 1
        have f2 := (kR.below hw4 kR.lt).frozen 2
        replace hB := hB.trans (hw4.mono hB.size)
        go_wp2_with fail
        refine bodyPost_ret (v := decR none) (by rw [results_cell_tmp rfl]; go_simp; try rfl) rfl ⟨rfl, ?_⟩
        repeat (first | exact hB | refine Below.drew ?_ | refine Below.setCell ?_ (by simp <;> omega) _ | refine Below.alloc ?_ (by simp <;> omega) _)
      · rw [hf] at CF'
        obtain rfl : dv = some ⟨xn, yn, zn⟩ := by rw [D'.out, if_pos]; exact ⟨rfl, rfl, rfl, hlen.symm ▸ rfl, hf⟩
        clear D D' hf
        go_wp2_with fail
        refine (CF'.out _).mono ?_
        rintro e w4 ⟨rfl, hw4⟩
        obtain ⟨r0, r1, r2⟩ := ev_cells' (kR.below hw4 kR.lt)
        have f0 := (kR.below hw4 kR.lt).frozen 0
        have f1 := (kR.below hw4 kR.lt).frozen 1
        have f2 := (kR.below hw4 kR.lt).frozen 2
        obtain ⟨e0, e1, e2⟩ := ev_cells' (kE.below hw4 kE.lt)
        replace hB := hB.trans (hw4.mono hB.size)
        go_wp2_with fail
        refine bodyPost_ret (v := decR (some ⟨xn, yn, zn⟩)) (by rw [results_cell_tmp rfl]; go_simp; try rfl) rfl ⟨rfl, ?_⟩
        repeat (first | exact hB | refine Below.drew ?_ | refine Below.setCell ?_ (by simp <;> omega) _ | refine Below.alloc ?_ (by simp <;> omega) _)
  · obtain rfl : dv = none := by rw [D'.out, if_neg]; rintro ⟨h1, h2, h3, -, -⟩; exact hG.2 rfl ⟨h1, h2, h3⟩
    obtain ⟨r0, r1, r2⟩ := ev_cells' kR
    have f0 := kR.frozen 0
    have f1 := kR.frozen 1
    have f2 := kR.frozen 2
    clear D D'
    go_wp2_with fail
    refine bodyPost_ret (v := decR none) (by rw [results_cell_tmp rfl]; go_simp; try rfl) rfl ⟨rfl, ?_⟩
    repeat (first | exact hB | refine Below.drew ?_ | refine Below.setCell ?_ (by simp <;> omega) _ | refine Below.alloc ?_ (by simp <;> omega) _)
end Go.Proofs.Yteilkigdlkeiaaa.Lf

namespace Go.Proofs.Yteilkigdlkeiaaa.Lf
set_option linter.unusedVariables false
set_option linter.unusedSimpArgs false
open Go Go.RowKit

def I64 (c : Int) : Prop := -9223372036854775808 ≤ c ∧ c ≤ 9223372036854775807
def pk (c : Int) : Int := if c < 0 then -(c + 1) else c
theorem pk_nn (c : Int) : 0 ≤ pk c := by unfold pk; split <;> omega
theorem pick_facts (c : Int) (h : I64 c) (hn : c < 0) : ∃ a b : Int, wrap64 (c + 1) = a ∧ wrap64 (-a) = b ∧ 0 ≤ b ∧ b = pk c := by
  unfold I64 at h
  refine ⟨c + 1, -(c + 1), ?_, ?_, by omega, ?_⟩
  · unfold wrap64; omega
  · unfold wrap64; omega
  · unfold pk; rw [if_pos hn]

theorem rpick_any (c n : Int) (w : World) (hc : I64 c) (hn : 0 < n) :
    Calls Try.prog 41 #[.int .i64 c, .int .i64 n] w fun e w' => e = .returned (.int .i64 (pk c % n)) ∧ w = w' := by
  by_cases h : c < 0
  · obtain ⟨a, b, e1, e2, hb, hp⟩ := pick_facts c hc h
    have t1 : decide (c < 0) = true := decide_eq_true h
    rw [← hp]
    clear hp hc h
    go_enter Try.func41, Try.ntmps41
    go_wp2
    go_ret
    exact ⟨rfl, rfl⟩
  · have t1 : decide (c < 0) = false := decide_eq_false h
    have hp : c = pk c := by unfold pk; rw [if_neg h]
    rw [← hp]
    have h0 : 0 ≤ c := by omega
    clear hp hc h
    go_enter Try.func41, Try.ntmps41
    go_wp2
    go_ret
    exact ⟨rfl, rfl⟩
theorem pick_any (c n : Int) (w : World) (hc : I64 c) (hn : 0 < n) :
    Calls Try.prog 29 #[.int .i64 c, .int .i64 n] w fun e w' => e = .returned (.int .i64 (pk c % n)) ∧ w = w' := by
  by_cases h : c < 0
  · obtain ⟨a, b, e1, e2, hb, hp⟩ := pick_facts c hc h
    have t1 : decide (c < 0) = true := decide_eq_true h
    rw [← hp]
    clear hp hc h
    go_enter Try.func29, Try.ntmps29
    go_wp2
    go_ret
    exact ⟨rfl, rfl⟩
  · have t1 : decide (c < 0) = false := decide_eq_false h
    have hp : c = pk c := by unfold pk; rw [if_neg h]
    rw [← hp]
    have h0 : 0 ≤ c := by omega
    clear hp hc h
    go_enter Try.func29, Try.ntmps29
    go_wp2
    go_ret
    exact ⟨rfl, rfl⟩

set_option maxHeartbeats 4000000 in
set_option maxRecDepth 100000 in
theorem rafter_any (l : Ln) (x : Ev) (w : World) (h0 : I64 x.k) (h1 : I64 x.a) (h2 : I64 x.h) :
    Calls Try.prog 40 #[l.v, x.v] w fun e w' => ∃ ev : Ev, e = .returned ev.v ∧ Below w.heap.size w w' := by
  obtain ⟨st, ho, ep, si⟩ := l
  obtain ⟨x0, x1, x2⟩ := x
  have P6 := Lib.hid (fun w => rpick_any x1 6 w h1 (by decide))
  have P5 := Lib.hid (fun w => rpick_any x2 5 w h2 (by decide))
  have Q1 := Lib.hid (fun w => rpick_any x0 1 w h0 (by decide))
  have Q5 := Lib.hid (fun w => rpick_any x0 5 w h0 (by decide))
  have Q2 := Lib.hid (fun w => rpick_any x0 2 w h0 (by decide))
  have Q3 := Lib.hid (fun w => rpick_any x0 3 w h0 (by decide))
  have CN := Lib.hid named_any
  generalize hq1 : pk x0 % 1 = q1 at Q1
  generalize hq2 : pk x0 % 2 = q2 at Q2
  generalize hq3 : pk x0 % 3 = q3 at Q3
  generalize hq5 : pk x0 % 5 = q5 at Q5
  generalize pk x1 % 6 = later at P6
  generalize pk x2 % 5 = hold at P5
  have z1 : q1 = 0 := by omega
  have z2 : q2 = 0 ∨ q2 = 1 := by omega
  have z3 : q3 = 0 ∨ q3 = 1 ∨ q3 = 2 := by omega
  have z5 : q5 = 0 ∨ q5 = 1 ∨ q5 = 2 ∨ q5 = 3 ∨ q5 = 4 := by omega
  clear hq1 hq2 hq3 hq5 h0 h1 h2
  show Calls _ _ #[.agg #[.int .i64 st, .int .i64 ho, .int .i64 ep, .int .i64 si], .agg #[.int .i64 x0, .int .i64 x1, .int .i64 x2]] _ _
  rcases s1 : (st == 1) with _ | _
  · rcases s2 : (st == 2) with _ | _
    · rcases s3 : (st == 3) with _ | _
      · subst z1
        clear Q2 Q3 Q5 z2 z3 z5
        go_enter Try.func40, Try.ntmps40
        go_wp2_with (first | (go_at_call 41; (first | (with_reducible refine (Q1.out _).mono ?_) | (with_reducible refine (Q2.out _).mono ?_) | (with_reducible refine (Q3.out _).mono ?_) | (with_reducible refine (Q5.out _).mono ?_) | (with_reducible refine (P6.out _).mono ?_) | (with_reducible refine (P5.out _).mono ?_)); rintro e w' ⟨rfl, rfl⟩) | (go_at_call 52; refine (CN.out _ _).mono ?_; rintro e w' ⟨rfl, rfl⟩))
        all_goals (
          refine bodyPost_ret (v := .agg #[.int .i64 _, .int .i64 _, .int .i64 _]) (by rw [results_cell1 rfl]; go_simp; first | rfl | exact ⟨rfl, rfl, rfl⟩) rfl ⟨⟨_, _, _⟩, rfl, ?_⟩
          repeat (first | exact Below.refl _ _ | refine Below.drew ?_ | refine Below.setCell ?_ (by simp <;> omega) _ | refine Below.alloc ?_ (by simp <;> omega) _))
      · obtain rfl : st = 3 := by simpa using s3
        clear Q1 Q2 Q5 z1 z2 z5
        rcases z3 with rfl | rfl | rfl
        all_goals (
          go_enter Try.func40, Try.ntmps40
          go_wp2_with (first | (go_at_call 41; (first | (with_reducible refine (Q1.out _).mono ?_) | (with_reducible refine (Q2.out _).mono ?_) | (with_reducible refine (Q3.out _).mono ?_) | (with_reducible refine (Q5.out _).mono ?_) | (with_reducible refine (P6.out _).mono ?_) | (with_reducible refine (P5.out _).mono ?_)); rintro e w' ⟨rfl, rfl⟩) | (go_at_call 52; refine (CN.out _ _).mono ?_; rintro e w' ⟨rfl, rfl⟩))
          all_goals (
            refine bodyPost_ret (v := .agg #[.int .i64 _, .int .i64 _, .int .i64 _]) (by rw [results_cell1 rfl]; go_simp; first | rfl | exact ⟨rfl, rfl, rfl⟩) rfl ⟨⟨_, _, _⟩, rfl, ?_⟩
            repeat (first | exact Below.refl _ _ | refine Below.drew ?_ | refine Below.setCell ?_ (by simp <;> omega) _ | refine Below.alloc ?_ (by simp <;> omega) _)))
    · obtain rfl : st = 2 := by simpa using s2
      clear Q1 Q3 Q5 z1 z3 z5
      rcases z2 with rfl | rfl
      all_goals (
        go_enter Try.func40, Try.ntmps40
        go_wp2_with (first | (go_at_call 41; (first | (with_reducible refine (Q1.out _).mono ?_) | (with_reducible refine (Q2.out _).mono ?_) | (with_reducible refine (Q3.out _).mono ?_) | (with_reducible refine (Q5.out _).mono ?_) | (with_reducible refine (P6.out _).mono ?_) | (with_reducible refine (P5.out _).mono ?_)); rintro e w' ⟨rfl, rfl⟩) | (go_at_call 52; refine (CN.out _ _).mono ?_; rintro e w' ⟨rfl, rfl⟩))
        all_goals (
          refine bodyPost_ret (v := .agg #[.int .i64 _, .int .i64 _, .int .i64 _]) (by rw [results_cell1 rfl]; go_simp; first | rfl | exact ⟨rfl, rfl, rfl⟩) rfl ⟨⟨_, _, _⟩, rfl, ?_⟩
          repeat (first | exact Below.refl _ _ | refine Below.drew ?_ | refine Below.setCell ?_ (by simp <;> omega) _ | refine Below.alloc ?_ (by simp <;> omega) _)))
  · obtain rfl : st = 1 := by simpa using s1
    clear Q1 Q2 Q3 z1 z2 z3
    rcases z5 with rfl | rfl | rfl | rfl | rfl
    all_goals (
      go_enter Try.func40, Try.ntmps40
      go_wp2_with (first | (go_at_call 41; (first | (with_reducible refine (Q1.out _).mono ?_) | (with_reducible refine (Q2.out _).mono ?_) | (with_reducible refine (Q3.out _).mono ?_) | (with_reducible refine (Q5.out _).mono ?_) | (with_reducible refine (P6.out _).mono ?_) | (with_reducible refine (P5.out _).mono ?_)); rintro e w' ⟨rfl, rfl⟩) | (go_at_call 52; refine (CN.out _ _).mono ?_; rintro e w' ⟨rfl, rfl⟩))
      all_goals (
        refine bodyPost_ret (v := .agg #[.int .i64 _, .int .i64 _, .int .i64 _]) (by rw [results_cell1 rfl]; go_simp; first | rfl | exact ⟨rfl, rfl, rfl⟩) rfl ⟨⟨_, _, _⟩, rfl, ?_⟩
        repeat (first | exact Below.refl _ _ | refine Below.drew ?_ | refine Below.setCell ?_ (by simp <;> omega) _ | refine Below.alloc ?_ (by simp <;> omega) _)))
end Go.Proofs.Yteilkigdlkeiaaa.Lf

namespace Go.Proofs.Yteilkigdlkeiaaa.Lf
set_option linter.unusedVariables false
set_option linter.unusedSimpArgs false
open Go Go.RowKit

/-- the event that is returned, out of the numbers that were picked -/
def afterC (st ho si later hold q2 q3 q5 : Int) : Ev :=
  let k : Int := if st = 1 then (if q5 = 0 then 2 else if q5 = 1 then 3 else if q5 = 2 then 5 else if q5 = 3 then 3 else 5) else if st = 2 then (if q2 = 0 then 4 else 5) else if st = 3 then (if q3 = 1 then 6 else 7) else 1
  let a := si + (if k = 7 then later + 2592000 else later)
  ⟨k, if 10000000 < a then 10000000 else a, if k = 1 then hold else if k = 2 then (if hold = ho then hold + 1 else hold) else -1⟩
def afterE (l : Ln) (x : Ev) : Ev := afterC l.st l.ho l.si (pk x.a % 6) (pk x.h % 5) (pk x.k % 2) (pk x.k % 3) (pk x.k % 5)
theorem ev_eq {a b c : Int} {e : Ev} (h : a = e.k) (h' : b = e.a) (h'' : c = e.h) : Ending.returned (.agg #[.int .i64 a, .int .i64 b, .int .i64 c]) = .returned e.v := by subst h; subst h'; subst h''; rfl

set_option maxHeartbeats 4000000 in
set_option maxRecDepth 100000 in
theorem rafter_ev (l : Ln) (x : Ev) (w : World) (hv : validB l = true) (h0 : I64 x.k) (h1 : I64 x.a) (h2 : I64 x.h) :
    Calls Try.prog 40 #[l.v, x.v] w fun e w' => e = .returned (afterE l x).v ∧ Below w.heap.size w w' := by
  obtain ⟨st, ho, ep, si⟩ := l
  obtain ⟨x0, x1, x2⟩ := x
  have hsi : 0 ≤ si ∧ si ≤ 10000000 := ⟨(valid_facts hv).2.2.2.1, (valid_facts hv).2.2.2.2.1⟩
  obtain ⟨hsi0, hsi1⟩ := hsi
  clear hv
  have P6 := Lib.hid (fun w => rpick_any x1 6 w h1 (by decide))
  have P5 := Lib.hid (fun w => rpick_any x2 5 w h2 (by decide))
  have Q1 := Lib.hid (fun w => rpick_any x0 1 w h0 (by decide))
  have Q5 := Lib.hid (fun w => rpick_any x0 5 w h0 (by decide))
  have Q2 := Lib.hid (fun w => rpick_any x0 2 w h0 (by decide))
  have Q3 := Lib.hid (fun w => rpick_any x0 3 w h0 (by decide))
  have CN := Lib.hid named_any
  have HV := Lib.hid (show afterE ⟨st, ho, ep, si⟩ ⟨x0, x1, x2⟩ = afterC st ho si (pk x1 % 6) (pk x2 % 5) (pk x0 % 2) (pk x0 % 3) (pk x0 % 5) from rfl)
  generalize afterE ⟨st, ho, ep, si⟩ ⟨x0, x1, x2⟩ = ev at HV ⊢
  have hl0 : 0 ≤ pk x1 % 6 := by omega
  have hl1 : pk x1 % 6 ≤ 5 := by omega
  have hh0 : 0 ≤ pk x2 % 5 := by omega
  have hh1 : pk x2 % 5 ≤ 4 := by omega
  generalize hq1 : pk x0 % 1 = q1 at Q1
  generalize hq2 : pk x0 % 2 = q2 at Q2 HV
  generalize hq3 : pk x0 % 3 = q3 at Q3 HV
  generalize hq5 : pk x0 % 5 = q5 at Q5 HV
  generalize pk x1 % 6 = later at P6 HV hl0 hl1
  generalize pk x2 % 5 = hold at P5 HV hh0 hh1
  have z1 : q1 = 0 := by omega
  have z2 : q2 = 0 ∨ q2 = 1 := by omega
  have z3 : q3 = 0 ∨ q3 = 1 ∨ q3 = 2 := by omega
  have z5 : q5 = 0 ∨ q5 = 1 ∨ q5 = 2 ∨ q5 = 3 ∨ q5 = 4 := by omega
  clear hq1 hq2 hq3 hq5 h0 h1 h2
  show Calls _ _ #[.agg #[.int .i64 st, .int .i64 ho, .int .i64 ep, .int .i64 si], .agg #[.int .i64 x0, .int .i64 x1, .int .i64 x2]] _ _
  rcases s1 : (st == 1) with _ | _
  · rcases s2 : (st == 2) with _ | _
    · rcases s3 : (st == 3) with _ | _
      · subst z1
        clear Q2 Q3 Q5 z2 z3 z5
        have t1 : ¬ st = 1 := by simpa using s1
        have t2 : ¬ st = 2 := by simpa using s2
        have t3 : ¬ st = 3 := by simpa using s3
        go_enter Try.func40, Try.ntmps40
        go_wp2_with (first | (go_at_call 41; (first | (with_reducible refine (Q1.out _).mono ?_) | (with_reducible refine (Q2.out _).mono ?_) | (with_reducible refine (Q3.out _).mono ?_) | (with_reducible refine (Q5.out _).mono ?_) | (with_reducible refine (P6.out _).mono ?_) | (with_reducible refine (P5.out _).mono ?_)); rintro e w' ⟨rfl, rfl⟩) | (go_at_call 52; refine (CN.out _ _).mono ?_; rintro e w' ⟨rfl, rfl⟩))
        all_goals (
          refine bodyPost_ret (v := .agg #[.int .i64 _, .int .i64 _, .int .i64 _]) (by rw [results_cell1 rfl]; go_simp; first | rfl | exact ⟨rfl, rfl, rfl⟩) rfl ⟨?_, ?_⟩
          · rw [HV.out]; refine ev_eq ?_ ?_ ?_ <;> (simp [afterC, *] <;> (try split) <;> first | omega | (simp only [beq_iff_eq, beq_eq_false_iff_ne, ne_eq] at *; omega))
          repeat (first | exact Below.refl _ _ | refine Below.drew ?_ | refine Below.setCell ?_ (by simp <;> omega) _ | refine Below.alloc ?_ (by simp <;> omega) _))
      · obtain rfl : st = 3 := by simpa using s3
        clear Q1 Q2 Q5 z1 z2 z5
        rcases z3 with rfl | rfl | rfl
        all_goals (
          go_enter Try.func40, Try.ntmps40
          go_wp2_with (first | (go_at_call 41; (first | (with_reducible refine (Q1.out _).mono ?_) | (with_reducible refine (Q2.out _).mono ?_) | (with_reducible refine (Q3.out _).mono ?_) | (with_reducible refine (Q5.out _).mono ?_) | (with_reducible refine (P6.out _).mono ?_) | (with_reducible refine (P5.out _).mono ?_)); rintro e w' ⟨rfl, rfl⟩) | (go_at_call 52; refine (CN.out _ _).mono ?_; rintro e w' ⟨rfl, rfl⟩))
          all_goals (
            refine bodyPost_ret (v := .agg #[.int .i64 _, .int .i64 _, .int .i64 _]) (by rw [results_cell1 rfl]; go_simp; first | rfl | exact ⟨rfl, rfl, rfl⟩) rfl ⟨?_, ?_⟩
            · rw [HV.out]; refine ev_eq ?_ ?_ ?_ <;> (simp [afterC, *] <;> (try split) <;> first | omega | (simp only [beq_iff_eq, beq_eq_false_iff_ne, ne_eq] at *; omega))
            repeat (first | exact Below.refl _ _ | refine Below.drew ?_ | refine Below.setCell ?_ (by simp <;> omega) _ | refine Below.alloc ?_ (by simp <;> omega) _)))
    · obtain rfl : st = 2 := by simpa using s2
      clear Q1 Q3 Q5 z1 z3 z5
      rcases z2 with rfl | rfl
      all_goals (
        go_enter Try.func40, Try.ntmps40
        go_wp2_with (first | (go_at_call 41; (first | (with_reducible refine (Q1.out _).mono ?_) | (with_reducible refine (Q2.out _).mono ?_) | (with_reducible refine (Q3.out _).mono ?_) | (with_reducible refine (Q5.out _).mono ?_) | (with_reducible refine (P6.out _).mono ?_) | (with_reducible refine (P5.out _).mono ?_)); rintro e w' ⟨rfl, rfl⟩) | (go_at_call 52; refine (CN.out _ _).mono ?_; rintro e w' ⟨rfl, rfl⟩))
        all_goals (
          refine bodyPost_ret (v := .agg #[.int .i64 _, .int .i64 _, .int .i64 _]) (by rw [results_cell1 rfl]; go_simp; first | rfl | exact ⟨rfl, rfl, rfl⟩) rfl ⟨?_, ?_⟩
          · rw [HV.out]; refine ev_eq ?_ ?_ ?_ <;> (simp [afterC, *] <;> (try split) <;> first | omega | (simp only [beq_iff_eq, beq_eq_false_iff_ne, ne_eq] at *; omega))
          repeat (first | exact Below.refl _ _ | refine Below.drew ?_ | refine Below.setCell ?_ (by simp <;> omega) _ | refine Below.alloc ?_ (by simp <;> omega) _)))
  · obtain rfl : st = 1 := by simpa using s1
    clear Q1 Q2 Q3 z1 z2 z3
    rcases z5 with rfl | rfl | rfl | rfl | rfl
    all_goals (
      go_enter Try.func40, Try.ntmps40
      go_wp2_with (first | (go_at_call 41; (first | (with_reducible refine (Q1.out _).mono ?_) | (with_reducible refine (Q2.out _).mono ?_) | (with_reducible refine (Q3.out _).mono ?_) | (with_reducible refine (Q5.out _).mono ?_) | (with_reducible refine (P6.out _).mono ?_) | (with_reducible refine (P5.out _).mono ?_)); rintro e w' ⟨rfl, rfl⟩) | (go_at_call 52; refine (CN.out _ _).mono ?_; rintro e w' ⟨rfl, rfl⟩))
      all_goals (
        refine bodyPost_ret (v := .agg #[.int .i64 _, .int .i64 _, .int .i64 _]) (by rw [results_cell1 rfl]; go_simp; first | rfl | exact ⟨rfl, rfl, rfl⟩) rfl ⟨?_, ?_⟩
        · rw [HV.out]; refine ev_eq ?_ ?_ ?_ <;> (simp [afterC, *] <;> (try split) <;> first | omega | (simp only [beq_iff_eq, beq_eq_false_iff_ne, ne_eq] at *; omega))
        repeat (first | exact Below.refl _ _ | refine Below.drew ?_ | refine Below.setCell ?_ (by simp <;> omega) _ | refine Below.alloc ?_ (by simp <;> omega) _)))
end Go.Proofs.Yteilkigdlkeiaaa.Lf
