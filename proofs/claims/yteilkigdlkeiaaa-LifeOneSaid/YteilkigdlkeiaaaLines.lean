/- life.lines$1: the iterator over the lines of a list of events, by its contract. -/
import Derived.Test.YteilkigdlkeiaaaLife5
import Derived.Test.YteilkigdlkeiaaaLifeRun
import Derived.Test.YteilkigdlkeiaaaRg
namespace Go.Proofs.Yteilkigdlkeiaaa.Lf
set_option linter.unusedVariables false
set_option linter.unusedSimpArgs false
open Go Go.RowKit
attribute [local go_sem] Oper.semAt_some
theorem wide_depth : Fence.wide.depth = none := rfl
attribute [local go_sem] wide_depth

abbrev encs (x : Int × Ln) : Array Value := #[.int .i64 x.1, x.2.v]
def Nx (L : List Ev) (pre : List (Int × Ln)) (x : Int × Ln) : Prop := pre ++ [x] <+: items L

theorem Addr_add_block (a : Addr) (m : Nat) : (a.add m).block = a.block := by unfold Addr.add; split <;> rfl
/-- the events lie in cells -/
def EvsIn (W : World) (A : Option Addr) (L : List Ev) : Prop :=
  ∀ k (h : k < L.length), ∃ ad, A = some ad ∧ W.cell? (ad.add (k * 3)) = some (.int .i64 L[k].k) ∧ W.cell? ⟨(ad.add (k * 3)).block, (ad.add (k * 3)).off + 1, none⟩ = some (.int .i64 L[k].a) ∧ W.cell? ⟨(ad.add (k * 3)).block, (ad.add (k * 3)).off + 2, none⟩ = some (.int .i64 L[k].h)

theorem EvsIn.keep {W W' : World} {A : Option Addr} {L : List Ev} (h : EvsIn W A L) (hk : 0 < L.length → ∀ ad o, A = some ad → W.heap[ad.block]? = some o → o.isCells = true → W'.heap[ad.block]? = some o) : EvsIn W' A L := by
  intro k hl
  obtain ⟨ad, e, h0, h1, h2⟩ := h k hl
  have hb : W'.heap[ad.block]? = W.heap[ad.block]? := by
    obtain ⟨o, ho, hc⟩ := cells_of_cell h0
    rw [Addr_add_block] at ho
    rw [hk (by omega) ad o e ho hc, ho]
  refine ⟨ad, e, ?_, ?_, ?_⟩
  · exact (World.cell?_of_block (by rw [Addr_add_block]; exact hb)).trans h0
  · exact (World.cell?_of_block (by show W'.heap[(ad.add (k * 3)).block]? = W.heap[(ad.add (k * 3)).block]?; rw [Addr_add_block]; exact hb)).trans h1
  · exact (World.cell?_of_block (by show W'.heap[(ad.add (k * 3)).block]? = W.heap[(ad.add (k * 3)).block]?; rw [Addr_add_block]; exact hb)).trans h2
theorem EvsIn.lt {W : World} {A : Option Addr} {L : List Ev} (h : EvsIn W A L) (hne : 0 < L.length) : ∀ ad, A = some ad → ad.block < W.heap.size := by
  intro ad e
  obtain ⟨ad', e', h0, _⟩ := h 0 hne
  rw [e] at e'; cases e'
  have := block_lt_of_cell h0
  rw [Addr_add_block] at this; exact this
theorem EvsIn.ab {B0 : Nat} {W W' : World} {A : Option Addr} {L : List Ev} (h : EvsIn W A L) (hab : Ab B0 W W') (hne : ∀ ad, A = some ad → ad.block < W.heap.size → ad.block ≠ B0) : EvsIn W' A L :=
  h.keep fun _ ad o e ho _ => hab.block _ _ ho fun e' => absurd e' (hne ad e (Array.getElem?_eq_some_iff.1 ho).1)
theorem EvsIn.kp {F : Nat → Prop} {N0 : Nat} {r r' : Option Nat} {W W' : World} {A : Option Addr} {L : List Ev} (h : EvsIn W A L) (hk : Kp F N0 r r' W W') (hF : 0 < L.length → ∀ ad, A = some ad → ¬ F ad.block ∧ ad.block < N0) : EvsIn W' A L :=
  h.keep fun hl ad o e ho hc => by
    cases o <;> first | exact hk.block _ _ _ _ ho (hF hl ad e).1 (.inl (hF hl ad e).2) | cases hc
theorem EvsIn.below {m : Nat} {W W' : World} {A : Option Addr} {L : List Ev} (h : EvsIn W A L) (hb : Below m W W') (hm : W.heap.size ≤ m) : EvsIn W' A L :=
  h.keep fun _ ad o e ho _ => (hb.block _ (Nat.lt_of_lt_of_le (Array.getElem?_eq_some_iff.1 ho).1 hm)).trans ho
theorem EvsIn.nil (W : World) (A : Option Addr) : EvsIn W A [] := fun k h => absurd h (by simp)

theorem line_cells {W : World} {b : Nat} {t : TypeId} {st ho ep si : Int} (h : Blk W b (lineCells ⟨st, ho, ep, si⟩) t) :
    W.cell? ⟨b, 0, none⟩ = some (.int .i64 st) ∧ W.cell? ⟨b, 1, none⟩ = some (.int .i64 ho) ∧ W.cell? ⟨b, 2, none⟩ = some (.int .i64 ep) ∧ W.cell? ⟨b, 3, none⟩ = some (.int .i64 si) :=
  ⟨h.cell 0 rfl, h.cell 1 rfl, h.cell 2 rfl, h.cell 3 rfl⟩
theorem ev_cells {W : World} {b : Nat} {t : TypeId} {k a h' : Int} (h : Blk W b (evCells ⟨k, a, h'⟩) t) :
    W.cell? ⟨b, 0, none⟩ = some (.int .i64 k) ∧ W.cell? ⟨b, 1, none⟩ = some (.int .i64 a) ∧ W.cell? ⟨b, 2, none⟩ = some (.int .i64 h') :=
  ⟨h.cell 0 rfl, h.cell 1 rfl, h.cell 2 rfl⟩

theorem after_cons (i : Nat) (l : Ln) (e : Ev) (es : List Ev) {n : Ln} (h : step l e = some n) : after i l (e :: es) = ((i : Int), n) :: after (i + 1) n es := by simp [after, h]
theorem after_none (i : Nat) (l : Ln) (e : Ev) (es : List Ev) (h : step l e = none) : after i l (e :: es) = [] := by simp [after, h]

set_option maxHeartbeats 4000000 in
theorem lines1 (F : Nat → Prop) (N0 l cp : Nat) (A : Option Addr) (n c : Nat) (L : List Ev) (hn : L.length = n) (hn2 : n ≤ 140737488351232) (W : World)
    (hc : Blk W cp #[.slice A n c] 24) (hE : EvsIn W A L) (hF : ∀ k, F k → k < W.heap.size) (hFc : ¬ F cp) (hFe : 0 < L.length → ∀ ad, A = some ad → ¬ F ad.block ∧ ad.block < N0) :
    Rg.Iter Try.prog 56 #[.pointer (some ⟨cp, 0, none⟩)] encs (Ab W.heap.size) (Kp F N0) Lt none (Nx L) (fun xs => xs = items L) (fun pre => pre <+: items L) l W := by
  intro J Jx hJ hJx hLt hY h0
  have C := Lib.hid step_any
  refine callsIn_of_wp Try.func56 rfl trivial ?_ rfl
  simp only [Try.ntmps56, List.size_toArray, List.length_cons, List.length_nil, Nat.reduceAdd, Nat.reduceSub, Array.replicate_succ, Array.replicate_zero, List.push_toArray, List.append_toArray, List.nil_append, List.cons_append]
  obtain ⟨fn1, tmps1, assign1, body1, hyd1, hR1⟩ := hY [] none (-1, firstL) (W.alloc (.cells (lineCells firstL) 26)) ⟨after 0 firstL L, rfl⟩ (hJ _ _ _ _ h0 (Ab.alloc _ _ _))
  dsimp only [encs, Ln.v, firstL, lineCells] at hyd1
  gi_wp2_with fail
  refine hR1.mono ?_
  rintro e W3 (⟨rfl, r3, hJ3, hk3⟩ | ⟨rfl, r3, hJx3⟩)
  rotate_left
  · gi_wp2
    refine bodyPost_ret (results_none rfl _ _ _) rfl ?_
    exact ⟨⟨_, rfl⟩, .inr ⟨_, r3, ⟨_, rfl⟩, hJx3⟩⟩
  have b3 : Blk W3 W.heap.size (lineCells firstL) 26 := hk3.blk (Blk.new W _ _) (fun h => Nat.lt_irrefl _ (hF _ h)) (.inr (by decide))
  have c3 : Blk W3 cp #[.slice A n c] 24 := hk3.blk (hc.alloc _) hFc (.inr (by decide))
  have e3 : EvsIn W3 A L := (hE.ab (Ab.alloc W.heap.size W _) (fun ad _ h => Nat.ne_of_lt h)).kp hk3 hFe
  have cc3 := c3.cell 0 rfl
  clear hyd1 hR1 hk3 h0
  gi_wp2_with fail
  gi_loopw [15] (fun i wr => ∃ (k : Nat) (line : Ln) (pre : List (Int × Ln)) (r : Option Nat), i = .int .i64 k ∧ k ≤ n ∧ items L = pre ++ after k line (L.drop k) ∧ Blk wr W.heap.size (lineCells line) 26 ∧ EvsIn wr A L ∧ J pre r wr)
    (fun i _ => n - (intOf i).toNat)
  case atStart => exact ⟨0, firstL, _, r3, rfl, by omega, rfl, b3, e3, hJ3⟩
  case round =>
    obtain ⟨k, line, pre, r, rfl, hk, hpre, bl, eL, hj⟩ := hrel
    by_cases hlt : k < n
    · have hlt' : k < L.length := by omega
      obtain ⟨ad, rfl, d0, d1, d2⟩ := eL k hlt'
      have hab := hE.lt (by omega) ad rfl
      have hdr : L.drop k = L[k] :: L.drop (k + 1) := List.drop_eq_getElem_cons hlt'
      rw [hdr] at hpre
      clear hdr
      generalize hev : L[k] = ev at hpre d0 d1 d2
      clear hev
      obtain ⟨ek, ea, eh⟩ := ev
      obtain ⟨st, ho, ep, si⟩ := line
      have bl4 := bl.alloc (.cells #[.int .i64 ek, .int .i64 ea, .int .i64 eh] 54)
      obtain ⟨b0, b1, b2, b3⟩ := line_cells bl4
      gi_wp2_with fail
      refine ⟨trivial, callsIn_wide.2 ((C.out ⟨st, ho, ep, si⟩ ⟨ek, ea, eh⟩ _).mono ?_)⟩
      rintro e w5 ⟨rfl, hw5⟩
      have ab5 := (Ab.alloc W.heap.size wr (.cells #[.int .i64 ek, .int .i64 ea, .int .i64 eh] 54)).trans (Ab.below hw5)
      have bl5 := bl4.below hw5 bl4.lt
      clear b0 b1 b2 b3 bl4 hw5
      rcases hs : step ⟨st, ho, ep, si⟩ ⟨ek, ea, eh⟩ with _ | nl
      · rw [after_none _ _ _ _ hs] at hpre
        have hpre' := Lib.hid hpre
        clear hs hpre
        dsimp only [stepV, zeroL, Ln.v]
        gi_wp2
        refine ⟨fun f h => (by cases h), ?_⟩
        gi_wp2
        refine bodyPost_ret (results_none rfl _ _ _) rfl ?_
        exact ⟨⟨_, rfl⟩, .inl ⟨pre, r, by rw [hpre'.out, List.append_nil], hJ _ _ _ _ hj (ab5.trans (Ab.alloc _ _ _))⟩⟩
      · rw [after_cons _ _ _ _ hs] at hpre
        obtain ⟨nst, nho, nep, nsi⟩ := nl
        have hpre' := Lib.hid hpre
        clear hs hpre
        dsimp only [stepV, Ln.v]
        obtain ⟨fn1, tmps1, assign1, body1, hyd1, hR1⟩ := hY pre r ((k : Int), ⟨nst, nho, nep, nsi⟩) (w5.alloc (.cells #[.int .i64 nst, .int .i64 nho, .int .i64 nep, .int .i64 nsi] 26)) ⟨after (k + 1) ⟨nst, nho, nep, nsi⟩ (L.drop (k + 1)), by rw [hpre'.out, List.append_assoc]; rfl⟩ (hJ _ _ _ _ hj (ab5.trans (Ab.alloc _ _ _)))
        dsimp only [encs, Ln.v] at hyd1
        gi_wp2_with fail
        refine hR1.mono ?_
        rintro e W7 (⟨rfl, r7, hJ7, hk7⟩ | ⟨rfl, r7, hJx7⟩)
        rotate_left
        · gi_wp2
          refine bodyPost_ret (results_none rfl _ _ _) rfl ?_
          exact ⟨⟨_, rfl⟩, .inr ⟨_, r7, ⟨after (k + 1) ⟨nst, nho, nep, nsi⟩ (L.drop (k + 1)), by rw [hpre'.out, List.append_assoc]; rfl⟩, hJx7⟩⟩
        have n7 : Blk W7 w5.heap.size (lineCells ⟨nst, nho, nep, nsi⟩) 26 := hk7.blk (Blk.new w5 _ _) (fun h => by have := hF _ h; have := bl5.lt; omega) (.inr (by decide))
        have bl7 : Blk W7 W.heap.size (lineCells ⟨st, ho, ep, si⟩) 26 := hk7.blk (bl5.alloc _) (fun h => Nat.lt_irrefl _ (hF _ h)) (.inr (by decide))
        have e7 : EvsIn W7 (some ad) L := (eL.ab (ab5.trans (Ab.alloc W.heap.size w5 _)) (fun ad' e h => by cases e; omega)).kp hk7 hFe
        obtain ⟨b0, b1, b2, b3⟩ := line_cells n7
        have f0 := bl7.frozen 0
        have f1 := bl7.frozen 1
        have f2 := bl7.frozen 2
        have f3 := bl7.frozen 3
        obtain ⟨o0, o1, o2, o3⟩ := line_cells bl7
        clear hyd1 hR1 hk7
        gi_wp2
        go_roundw
        case rel =>
          have s7 := (((bl7.set 0 (.int .i64 nst)).set 1 (.int .i64 nho)).set 2 (.int .i64 nep)).set 3 (.int .i64 nsi)
          have a7 := (((Ab.setCell bl7 0 (.int .i64 nst)).trans (Ab.setCell (bl7.set 0 (.int .i64 nst)) 1 (.int .i64 nho))).trans (Ab.setCell ((bl7.set 0 (.int .i64 nst)).set 1 (.int .i64 nho)) 2 (.int .i64 nep))).trans (Ab.setCell (((bl7.set 0 (.int .i64 nst)).set 1 (.int .i64 nho)).set 2 (.int .i64 nep)) 3 (.int .i64 nsi))
          refine ⟨k + 1, ⟨nst, nho, nep, nsi⟩, pre ++ [((k : Int), ⟨nst, nho, nep, nsi⟩)], r7, by go_num, by omega, by rw [hpre'.out, List.append_assoc]; rfl, s7, e7.ab a7 (fun ad' e h => by cases e; omega), hJ _ _ _ _ hJ7 a7⟩
        case measure => simp [intOf]; omega
    · obtain rfl : k = n := by omega
      rw [List.drop_eq_nil_of_le (by omega), show after k line [] = [] from rfl, List.append_nil] at hpre
      have hpre' := Lib.hid hpre
      clear hpre
      gi_wp2
      refine bodyPost_end (results_none rfl _ _ _) rfl ?_
      exact ⟨⟨_, rfl⟩, .inl ⟨pre, r, hpre'.out.symm, hj⟩⟩
end Go.Proofs.Yteilkigdlkeiaaa.Lf
