/- dialtoneref14.Time, by its contract: it returns a time. -/
import Derived.Test.YteilkigdlkeiaaaAfter
import Derived.Test.YteilkigdlkeiaaaLines
namespace Go.Proofs.Yteilkigdlkeiaaa.Lf
set_option linter.unusedVariables false
set_option linter.unusedSimpArgs false
open Go Go.RowKit

theorem i64_wrap (y : Int) : I64 (wrap64 y) := by unfold I64 wrap64; omega

set_option maxHeartbeats 1000000 in
theorem time_any (A : Option Addr) (n c : Nat) (L : List Ev) (x : Int) (hx : I64 x) (hn : L.length = n) (hn2 : n ≤ 1000) (w : World) (hE : EvsIn w A L) :
    Calls Try.prog 24 #[.slice A n c, .int .i64 x] w fun e w' => ∃ t : Int, e = .returned (.int .i64 t) ∧ 0 ≤ t ∧ t ≤ 10000000 ∧ w = w' := by
  obtain ⟨r, hr⟩ : ∃ r : Nat, pk x % ((n : Int) + 2) = r := ⟨(pk x % ((n : Int) + 2)).toNat, by have := Int.emod_nonneg (pk x) (show (n : Int) + 2 ≠ 0 by omega); omega⟩
  have C1 := Lib.hid (fun w => rpick_any x ((n : Int) + 2) w hx (by omega))
  rw [hr] at C1
  have hr2 : r < n + 2 := by have := Int.emod_lt_of_pos (pk x) (show 0 < (n : Int) + 2 by omega); omega
  clear hr
  have C3 := Lib.hid (fun c w h => rpick_any c 3 w h (by decide))
  by_cases h1 : r < n
  · obtain ⟨ad, rfl, d0, d1, d2⟩ := hE r (by omega)
    generalize (L[r]'(by omega)).a = a at d1
    clear d0 d2 hn hE
    go_enter Try.func24, Try.ntmps24
    go_wp2_with fail
    refine (C1.out _).mono ?_
    rintro e w' ⟨rfl, rfl⟩
    go_wp2_with fail
    refine (C3.out _ _ (i64_wrap _)).mono ?_
    rintro e w' ⟨rfl, rfl⟩
    generalize pk (wrap64 (Int.tdiv x 64)) % 3 = q
    go_wp2
    go_ret
    refine ⟨_, rfl, ?_, ?_, rfl⟩ <;> omega
  · clear hn hE
    by_cases h2 : r = n
    · subst h2
      go_enter Try.func24, Try.ntmps24
      go_wp2_with fail
      refine (C1.out _).mono ?_
      rintro e w' ⟨rfl, rfl⟩
      go_wp2_with fail
      refine (C3.out _ _ (i64_wrap _)).mono ?_
      rintro e w' ⟨rfl, rfl⟩
      generalize pk (wrap64 (Int.tdiv x 64)) % 3 = q
      go_wp2
      go_ret
      refine ⟨_, rfl, ?_, ?_, rfl⟩ <;> omega
    · have hb : ((r : Int) == (n : Int)) = false := by rw [beq_eq_false_iff_ne]; omega
      go_enter Try.func24, Try.ntmps24
      go_wp2_with fail
      refine (C1.out _).mono ?_
      rintro e w' ⟨rfl, rfl⟩
      go_wp2_with fail
      refine (C3.out _ _ (i64_wrap _)).mono ?_
      rintro e w' ⟨rfl, rfl⟩
      generalize pk (wrap64 (Int.tdiv x 64)) % 3 = q
      go_wp2
      go_ret
      refine ⟨_, rfl, ?_, ?_, rfl⟩ <;> omega
end Go.Proofs.Yteilkigdlkeiaaa.Lf
