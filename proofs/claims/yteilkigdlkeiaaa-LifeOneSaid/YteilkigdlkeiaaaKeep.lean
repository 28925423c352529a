/- life.At, life.Keep, life.Fate, by their contracts. -/
import Derived.Test.YteilkigdlkeiaaaAt
namespace Go.Proofs.Yteilkigdlkeiaaa.Lf
set_option linter.unusedVariables false
set_option linter.unusedSimpArgs false
open Go Go.RowKit

structure Ml where
  ep : Int
  at_ : Int
deriving DecidableEq
def Ml.v (m : Ml) : Value := .agg #[.int .i64 m.ep, .int .i64 m.at_]
def zeroM : Ml := ⟨0, 0⟩

def keepV (L : List Ev) (t : Int) : Option Ml := match atV L t with
  | some l => if usedB l then some ⟨l.ep, t⟩ else none
  | none => none
def keepR (o : Option Ml) : Value := match o with
  | some m => .tuple #[m.v, .int .i64 0]
  | none => .tuple #[zeroM.v, .int .i64 140]
/-- what life.Fate returns: the fate, the holder, the error -/
def fateV (L : List Ev) (m : Ml) (t : Int) : Int × Int × Int :=
  match keepV L m.at_, atV L t with
  | some k, some l => if k.ep = m.ep ∧ m.at_ ≤ t then (if l.st = 0 ∨ l.ep ≠ m.ep then (3, -1, 0) else if l.st = 1 then (1, l.ho, 0) else (2, -1, 0)) else (0, 0, 140)
  | _, _ => (0, 0, 140)
def fateR (x : Int × Int × Int) : Value := .tuple #[.int .i64 x.1, .int .i64 x.2.1, .int .i64 x.2.2]

set_option maxHeartbeats 1000000 in
theorem atGet_any (A : Option Addr) (n c : Nat) (L : List Ev) (t : Int) (hn : L.length = n) (hn2 : n ≤ 140737488351232) (hc : n ≤ c) (w : World) (hE : EvsIn w A L) :
    Calls Try.prog 25 #[.slice A n c, .int .i64 t] w fun e w' => e = .returned (stepV (atV L t)) ∧ Below w.heap.size w w' := by
  have e1 := hE.below (W' := w.alloc (.cells #[.int .i64 0, .int .i64 0, .int .i64 0, .int .i64 0] 26)) ((Below.refl _ _).alloc (Nat.le_refl _) _) (Nat.le_refl _)
  have C1 := at_any A n c L t hn hn2 hc _ e1
  have k0 := Blk.new w #[.int .i64 0, .int .i64 0, .int .i64 0, .int .i64 0] 26
  generalize atV L t = av at C1 ⊢
  rcases av with _ | ⟨st, ho, ep, si⟩
  all_goals (
    dsimp only [atR, Ln.v, zeroL] at C1
    have C1 := Lib.hid C1
    go_enter Try.func25, Try.ntmps25
    go_wp2_with fail
    refine C1.out.mono ?_
    rintro e w1 ⟨rfl, hB1⟩
    have hB : Below w.heap.size w w1 := ((Below.refl _ _).alloc (Nat.le_refl _) _).trans (hB1.mono (by simp))
    have kz := k0.below hB1 k0.lt)
  · obtain ⟨z0, z1, z2, z3, y0, y1, y2, y3⟩ := zfacts (kz.alloc (.cells #[.int .i64 0, .int .i64 0, .int .i64 0, .int .i64 0] 26))
    go_wp2_with fail
    refine bodyPost_ret (v := stepV none) (by rw [results_cell_tmp rfl]; go_simp; try rfl) rfl ⟨rfl, ?_⟩
    repeat (first | exact hB | refine Below.drew ?_ | refine Below.setCell ?_ (by simp <;> omega) _ | refine Below.alloc ?_ (by have := hB.size; simp <;> omega) _)
  · obtain ⟨z0, z1, z2, z3, y0, y1, y2, y3⟩ := zfacts (kz.alloc (.cells #[.int .i64 st, .int .i64 ho, .int .i64 ep, .int .i64 si] 26))
    go_wp2_with fail
    refine bodyPost_ret (v := stepV (some ⟨st, ho, ep, si⟩)) (by rw [results_cell_tmp rfl]; go_simp; try rfl) rfl ⟨rfl, ?_⟩
    repeat (first | exact hB | refine Below.drew ?_ | refine Below.setCell ?_ (by simp <;> omega) _ | refine Below.alloc ?_ (by have := hB.size; simp <;> omega) _)

theorem mfacts {W : World} {b : Nat} {t : TypeId} {x y : Int} (h : Blk W b #[.int .i64 x, .int .i64 y] t) :
    W.cell? ⟨b, 0, none⟩ = some (.int .i64 x) ∧ W.cell? ⟨b, 1, none⟩ = some (.int .i64 y) ∧ W.frozen? ⟨b, 0, none⟩ = false ∧ W.frozen? ⟨b, 1, none⟩ = false :=
  ⟨h.cell 0 rfl, h.cell 1 rfl, h.frozen 0, h.frozen 1⟩

set_option maxHeartbeats 1000000 in
theorem keep_any (A : Option Addr) (n c : Nat) (L : List Ev) (t : Int) (hn : L.length = n) (hn2 : n ≤ 140737488351232) (hc : n ≤ c) (w : World) (hE : EvsIn w A L) :
    Calls Try.prog 27 #[.slice A n c, .int .i64 t] w fun e w' => e = .returned (keepR (keepV L t)) ∧ Below w.heap.size w w' := by
  have e1 := hE.below (W' := w.alloc (.cells #[.int .i64 0, .int .i64 0] 28)) ((Below.refl _ _).alloc (Nat.le_refl _) _) (Nat.le_refl _)
  have C1 := at_any A n c L t hn hn2 hc _ e1
  have C2 := Lib.hid used_any
  have k0 := Blk.new w #[.int .i64 0, .int .i64 0] 28
  unfold keepV
  generalize atV L t = av at C1 ⊢
  rcases av with _ | ⟨st, ho, ep, si⟩
  · dsimp only [atR, Ln.v, zeroL] at C1
    have C1 := Lib.hid C1
    go_enter Try.func27, Try.ntmps27
    go_wp2_with fail
    refine C1.out.mono ?_
    rintro e w1 ⟨rfl, hB1⟩
    have hB : Below w.heap.size w w1 := ((Below.refl _ _).alloc (Nat.le_refl _) _).trans (hB1.mono (by simp))
    have kz := k0.below hB1 k0.lt
    obtain ⟨z0, z1, y0, y1⟩ := mfacts (kz.alloc (.cells #[.int .i64 0, .int .i64 0, .int .i64 0, .int .i64 0] 26))
    go_wp2_with fail
    refine bodyPost_ret (v := keepR none) (by rw [results_cell_tmp rfl]; go_simp; try rfl) rfl ⟨rfl, ?_⟩
    repeat (first | exact hB | refine Below.drew ?_ | refine Below.setCell ?_ (by simp <;> omega) _ | refine Below.alloc ?_ (by have := hB.size; simp <;> omega) _)
  · dsimp only [atR, Ln.v, zeroL] at C1
    have C1 := Lib.hid C1
    have C2' := Lib.hid (C2.out ⟨st, ho, ep, si⟩)
    dsimp only
    rcases hu : usedB ⟨st, ho, ep, si⟩ with _ | _
    all_goals (
      rw [hu] at C2'
      go_enter Try.func27, Try.ntmps27
      go_wp2_with fail
      refine C1.out.mono ?_
      rintro e w1 ⟨rfl, hB1⟩
      have hB : Below w.heap.size w w1 := ((Below.refl _ _).alloc (Nat.le_refl _) _).trans (hB1.mono (by simp))
      have kz := (k0.below hB1 k0.lt).alloc (.cells #[.int .i64 st, .int .i64 ho, .int .i64 ep, .int .i64 si] 26)
      have kl := Blk.new w1 #[.int .i64 st, .int .i64 ho, .int .i64 ep, .int .i64 si] 26
      have hB2 := hB.alloc hB.size (.cells #[.int .i64 st, .int .i64 ho, .int .i64 ep, .int .i64 si] 26)
      go_wp2_with fail
      refine (C2'.out _).mono ?_
      rintro e w3 ⟨rfl, hB3⟩
      replace hB2 := hB2.trans (hB3.mono hB2.size)
      obtain ⟨z0, z1, y0, y1⟩ := mfacts (kz.below hB3 kz.lt)
      obtain ⟨c0, c1, c2, c3⟩ := line_cells (st := st) (ho := ho) (ep := ep) (si := si) (kl.below hB3 kl.lt)
      clear C1 C2 C2' hB3 hB1 kz kl
      go_wp2_with fail)
    · refine bodyPost_ret (v := keepR none) (by rw [results_cell_tmp rfl]; go_simp; try rfl) rfl ⟨rfl, ?_⟩
      repeat (first | exact hB2 | refine Below.drew ?_ | refine Below.setCell ?_ (by simp <;> omega) _ | refine Below.alloc ?_ (by have := hB.size; simp <;> omega) _)
    · refine bodyPost_ret (v := keepR (some ⟨ep, t⟩)) (by rw [results_cell_tmp rfl]; go_simp; try rfl) rfl ⟨rfl, ?_⟩
      repeat (first | exact hB2 | refine Below.drew ?_ | refine Below.setCell ?_ (by simp <;> omega) _ | refine Below.alloc ?_ (by have := hB.size; simp <;> omega) _)
end Go.Proofs.Yteilkigdlkeiaaa.Lf
