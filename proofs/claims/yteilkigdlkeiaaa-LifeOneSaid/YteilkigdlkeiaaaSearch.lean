/- sort.Search and the closure of life.at, by their contracts. -/
import Derived.Test.YteilkigdlkeiaaaLines
import Derived.Deep.LoopGhost
namespace Go.Proofs.Yteilkigdlkeiaaa.Lf
set_option linter.unusedVariables false
set_option linter.unusedSimpArgs false
open Go Go.RowKit

set_option maxHeartbeats 4000000 in
theorem search (g : Nat) (cb : Array Value) (n r : Nat) (p : Nat → Bool) (w : World) (eg : ∀ args w, (callFunc g args).run Try.prog w = .ok (.enter g args) w) (hsz : n ≤ 140737488351232) (hr : r ≤ n)
    (hf : ∀ (W : World) (i : Nat), Below w.heap.size w W → i < n → Calls Try.prog g (#[.int .i64 i] ++ cb) W fun e w' => e = .returned (.bool (p i)) ∧ Below W.heap.size W w')
    (h0 : ∀ t, t < r → p t = false) (h1 : ∀ t, r ≤ t → t < n → p t = true) :
    Calls Try.prog 57 #[.int .i64 n, .func (.func g) #[] cb] w fun e w' => e = .returned (.int .i64 r) ∧ Below w.heap.size w w' := by
  have HF := Lib.hid hf
  have H0 := Lib.hid h0
  have H1 := Lib.hid h1
  clear hf h0 h1
  go_enter Try.func57, Try.ntmps57
  go_wp2
  go_loopg [5, 6] n (fun kx s5 s6 wr => ∃ (lo hi : Nat), s5 = .int .i64 lo ∧ s6 = .int .i64 hi ∧ lo ≤ r ∧ r ≤ hi ∧ hi ≤ n ∧ hi - lo ≤ kx ∧ Below w.heap.size w wr)
  case atStart => exact ⟨0, n, rfl, rfl, Nat.zero_le _, hr, Nat.le_refl _, by omega, Below.refl _ _⟩
  case round =>
    obtain ⟨lo, hi, rfl, rfl, hlr, hrh, hin, hg, hB⟩ := hrel
    by_cases hlt : lo < hi
    · have hc := HF.out wr ((lo + hi) / 2) hB (by omega)
      rw [show (((lo + hi) / 2 : Nat) : Int) = ((lo : Int) + (hi : Int)) / 2 by omega] at hc
      have HB := Lib.hid hB
      cases hp : p ((lo + hi) / 2) <;> rw [hp] at hc
      · have HP : (lo + hi) / 2 < r := by
          by_cases h : (lo + hi) / 2 < r
          · exact h
          · have := H1.out ((lo + hi) / 2) (by omega) (by omega); rw [hp] at this; cases this
        clear hp
        go_wp2_with (go_at_fn g; refine hc.mono ?_; rintro e w' ⟨rfl, hw⟩)
        go_roundg (hi - ((lo + hi) / 2 + 1))
        case measure => omega
        case rel =>
          exact ⟨(lo + hi) / 2 + 1, hi, by rw [show ((lo : Int) + (hi : Int)) / 2 + 1 = (((lo + hi) / 2 + 1 : Nat) : Int) by omega], rfl, by omega, hrh, hin, Nat.le_refl _, HB.out.trans (hw.mono HB.out.size)⟩
      · have HP : r ≤ (lo + hi) / 2 := by
          by_cases h : (lo + hi) / 2 < r
          · have := H0.out ((lo + hi) / 2) h; rw [hp] at this; cases this
          · omega
        clear hp
        go_wp2_with (go_at_fn g; refine hc.mono ?_; rintro e w' ⟨rfl, hw⟩)
        go_roundg ((lo + hi) / 2 - lo)
        case measure => omega
        case rel =>
          exact ⟨lo, (lo + hi) / 2, rfl, by rw [show ((lo : Int) + (hi : Int)) / 2 = (((lo + hi) / 2 : Nat) : Int) by omega], hlr, HP, by omega, Nat.le_refl _, HB.out.trans (hw.mono HB.out.size)⟩
    · obtain rfl : lo = r := by omega
      obtain rfl : hi = lo := by omega
      go_wp2
      go_ret
      exact ⟨rfl, hB⟩

theorem at1 (b1 b2 : Nat) (A : Option Addr) (n c : Nat) (L : List Ev) (t : Int) (i : Nat) (hn : L.length = n) (hi : i < n) (w : World) (hE : EvsIn w A L)
    (hb1 : w.cell? ⟨b1, 0, none⟩ = some (.slice A n c)) (hb2 : w.cell? ⟨b2, 0, none⟩ = some (.int .i64 t)) :
    Calls Try.prog 58 #[.int .i64 i, .pointer (some ⟨b1, 0, none⟩), .pointer (some ⟨b2, 0, none⟩)] w fun e w' => e = .returned (.bool (decide (t < (L[i]'(by omega)).a))) ∧ Below w.heap.size w w' := by
  obtain ⟨ad, rfl, d0, d1, d2⟩ := hE i (by omega)
  generalize (L[i]'(by omega)).a = a at d1 ⊢
  go_enter Try.func58, Try.ntmps58
  go_wp2
  go_region
  all_goals (
    go_wp2
    go_ret
    exact ⟨rfl, (Below.refl _ _).drew⟩)
end Go.Proofs.Yteilkigdlkeiaaa.Lf
