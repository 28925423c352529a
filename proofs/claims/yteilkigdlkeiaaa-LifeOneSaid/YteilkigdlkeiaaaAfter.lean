/- pick, After, Time, by their contracts (what After and Time return is not said, but of what kind it is). -/
import Derived.Test.YteilkigdlkeiaaaLife4
import Derived.Test.YteilkigdlkeiaaaLife3
import Derived.Test.YteilkigdlkeiaaaLifeRun
import Derived.Lib.MinMax
import Derived.Laws.ResultCell
namespace Go.Proofs.Yteilkigdlkeiaaa.Lf
set_option linter.unusedVariables false
set_option linter.unusedSimpArgs false
open Go Go.RowKit

def I64 (c : Int) : Prop := -9223372036854775808 ≤ c ∧ c ≤ 9223372036854775807
def pk (c : Int) : Int := if c < 0 then -(c + 1) else c
theorem pk_nn (c : Int) : 0 ≤ pk c := by unfold pk; split <;> omega
theorem pick_facts (c : Int) (h : I64 c) (hn : c < 0) : ∃ a b : Int, wrap64 (c + 1) = a ∧ wrap64 (-a) = b ∧ 0 ≤ b ∧ b = pk c := by
  unfold I64 at h
  refine ⟨c + 1, -(c + 1), ?_, ?_, by omega, ?_⟩
  · unfold wrap64; omega
  · unfold wrap64; omega
  · unfold pk; rw [if_pos hn]

theorem rpick_any (c n : Int) (w : World) (hc : I64 c) (hn : 0 < n) :
    Calls Try.prog 41 #[.int .i64 c, .int .i64 n] w fun e w' => e = .returned (.int .i64 (pk c % n)) ∧ w = w' := by
  by_cases h : c < 0
  · obtain ⟨a, b, e1, e2, hb, hp⟩ := pick_facts c hc h
    have t1 : decide (c < 0) = true := decide_eq_true h
    rw [← hp]
    clear hp hc h
    go_enter Try.func41, Try.ntmps41
    go_wp2
    go_ret
    exact ⟨rfl, rfl⟩
  · have t1 : decide (c < 0) = false := decide_eq_false h
    have hp : c = pk c := by unfold pk; rw [if_neg h]
    rw [← hp]
    have h0 : 0 ≤ c := by omega
    clear hp hc h
    go_enter Try.func41, Try.ntmps41
    go_wp2
    go_ret
    exact ⟨rfl, rfl⟩
theorem pick_any (c n : Int) (w : World) (hc : I64 c) (hn : 0 < n) :
    Calls Try.prog 29 #[.int .i64 c, .int .i64 n] w fun e w' => e = .returned (.int .i64 (pk c % n)) ∧ w = w' := by
  by_cases h : c < 0
  · obtain ⟨a, b, e1, e2, hb, hp⟩ := pick_facts c hc h
    have t1 : decide (c < 0) = true := decide_eq_true h
    rw [← hp]
    clear hp hc h
    go_enter Try.func29, Try.ntmps29
    go_wp2
    go_ret
    exact ⟨rfl, rfl⟩
  · have t1 : decide (c < 0) = false := decide_eq_false h
    have hp : c = pk c := by unfold pk; rw [if_neg h]
    rw [← hp]
    have h0 : 0 ≤ c := by omega
    clear hp hc h
    go_enter Try.func29, Try.ntmps29
    go_wp2
    go_ret
    exact ⟨rfl, rfl⟩

set_option maxHeartbeats 4000000 in
set_option maxRecDepth 100000 in
theorem rafter_any (l : Ln) (x : Ev) (w : World) (h0 : I64 x.k) (h1 : I64 x.a) (h2 : I64 x.h) :
    Calls Try.prog 40 #[l.v, x.v] w fun e w' => ∃ ev : Ev, e = .returned ev.v ∧ Below w.heap.size w w' := by
  obtain ⟨st, ho, ep, si⟩ := l
  obtain ⟨x0, x1, x2⟩ := x
  have P6 := Lib.hid (fun w => rpick_any x1 6 w h1 (by decide))
  have P5 := Lib.hid (fun w => rpick_any x2 5 w h2 (by decide))
  have Q1 := Lib.hid (fun w => rpick_any x0 1 w h0 (by decide))
  have Q5 := Lib.hid (fun w => rpick_any x0 5 w h0 (by decide))
  have Q2 := Lib.hid (fun w => rpick_any x0 2 w h0 (by decide))
  have Q3 := Lib.hid (fun w => rpick_any x0 3 w h0 (by decide))
  have CN := Lib.hid named_any
  generalize hq1 : pk x0 % 1 = q1 at Q1
  generalize hq2 : pk x0 % 2 = q2 at Q2
  generalize hq3 : pk x0 % 3 = q3 at Q3
  generalize hq5 : pk x0 % 5 = q5 at Q5
  generalize pk x1 % 6 = later at P6
  generalize pk x2 % 5 = hold at P5
  have z1 : q1 = 0 := by omega
  have z2 : q2 = 0 ∨ q2 = 1 := by omega
  have z3 : q3 = 0 ∨ q3 = 1 ∨ q3 = 2 := by omega
  have z5 : q5 = 0 ∨ q5 = 1 ∨ q5 = 2 ∨ q5 = 3 ∨ q5 = 4 := by omega
  clear hq1 hq2 hq3 hq5 h0 h1 h2
  show Calls _ _ #[.agg #[.int .i64 st, .int .i64 ho, .int .i64 ep, .int .i64 si], .agg #[.int .i64 x0, .int .i64 x1, .int .i64 x2]] _ _
  rcases s1 : (st == 1) with _ | _
  · rcases s2 : (st == 2) with _ | _
    · rcases s3 : (st == 3) with _ | _
      · subst z1
        clear Q2 Q3 Q5 z2 z3 z5
        go_enter Try.func40, Try.ntmps40
        go_wp2_with (first | (go_at_call 41; (first | (with_reducible refine (Q1.out _).mono ?_) | (with_reducible refine (Q2.out _).mono ?_) | (with_reducible refine (Q3.out _).mono ?_) | (with_reducible refine (Q5.out _).mono ?_) | (with_reducible refine (P6.out _).mono ?_) | (with_reducible refine (P5.out _).mono ?_)); rintro e w' ⟨rfl, rfl⟩) | (go_at_call 52; refine (CN.out _ _).mono ?_; rintro e w' ⟨rfl, rfl⟩))
        all_goals (
          refine bodyPost_ret (v := .agg #[.int .i64 _, .int .i64 _, .int .i64 _]) (by rw [results_cell1 rfl]; go_simp; first | rfl | exact ⟨rfl, rfl, rfl⟩) rfl ⟨⟨_, _, _⟩, rfl, ?_⟩
          repeat (first | exact Below.refl _ _ | refine Below.drew ?_ | refine Below.setCell ?_ (by simp <;> omega) _ | refine Below.alloc ?_ (by simp <;> omega) _))
      · obtain rfl : st = 3 := by simpa using s3
        clear Q1 Q2 Q5 z1 z2 z5
        rcases z3 with rfl | rfl | rfl
        all_goals (
          go_enter Try.func40, Try.ntmps40
          go_wp2_with (first | (go_at_call 41; (first | (with_reducible refine (Q1.out _).mono ?_) | (with_reducible refine (Q2.out _).mono ?_) | (with_reducible refine (Q3.out _).mono ?_) | (with_reducible refine (Q5.out _).mono ?_) | (with_reducible refine (P6.out _).mono ?_) | (with_reducible refine (P5.out _).mono ?_)); rintro e w' ⟨rfl, rfl⟩) | (go_at_call 52; refine (CN.out _ _).mono ?_; rintro e w' ⟨rfl, rfl⟩))
          all_goals (
            refine bodyPost_ret (v := .agg #[.int .i64 _, .int .i64 _, .int .i64 _]) (by rw [results_cell1 rfl]; go_simp; first | rfl | exact ⟨rfl, rfl, rfl⟩) rfl ⟨⟨_, _, _⟩, rfl, ?_⟩
            repeat (first | exact Below.refl _ _ | refine Below.drew ?_ | refine Below.setCell ?_ (by simp <;> omega) _ | refine Below.alloc ?_ (by simp <;> omega) _)))
    · obtain rfl : st = 2 := by simpa using s2
      clear Q1 Q3 Q5 z1 z3 z5
      rcases z2 with rfl | rfl
      all_goals (
        go_enter Try.func40, Try.ntmps40
        go_wp2_with (first | (go_at_call 41; (first | (with_reducible refine (Q1.out _).mono ?_) | (with_reducible refine (Q2.out _).mono ?_) | (with_reducible refine (Q3.out _).mono ?_) | (with_reducible refine (Q5.out _).mono ?_) | (with_reducible refine (P6.out _).mono ?_) | (with_reducible refine (P5.out _).mono ?_)); rintro e w' ⟨rfl, rfl⟩) | (go_at_call 52; refine (CN.out _ _).mono ?_; rintro e w' ⟨rfl, rfl⟩))
        all_goals (
          refine bodyPost_ret (v := .agg #[.int .i64 _, .int .i64 _, .int .i64 _]) (by rw [results_cell1 rfl]; go_simp; first | rfl | exact ⟨rfl, rfl, rfl⟩) rfl ⟨⟨_, _, _⟩, rfl, ?_⟩
          repeat (first | exact Below.refl _ _ | refine Below.drew ?_ | refine Below.setCell ?_ (by simp <;> omega) _ | refine Below.alloc ?_ (by simp <;> omega) _)))
  · obtain rfl : st = 1 := by simpa using s1
    clear Q1 Q2 Q3 z1 z2 z3
    rcases z5 with rfl | rfl | rfl | rfl | rfl
    all_goals (
      go_enter Try.func40, Try.ntmps40
      go_wp2_with (first | (go_at_call 41; (first | (with_reducible refine (Q1.out _).mono ?_) | (with_reducible refine (Q2.out _).mono ?_) | (with_reducible refine (Q3.out _).mono ?_) | (with_reducible refine (Q5.out _).mono ?_) | (with_reducible refine (P6.out _).mono ?_) | (with_reducible refine (P5.out _).mono ?_)); rintro e w' ⟨rfl, rfl⟩) | (go_at_call 52; refine (CN.out _ _).mono ?_; rintro e w' ⟨rfl, rfl⟩))
      all_goals (
        refine bodyPost_ret (v := .agg #[.int .i64 _, .int .i64 _, .int .i64 _]) (by rw [results_cell1 rfl]; go_simp; first | rfl | exact ⟨rfl, rfl, rfl⟩) rfl ⟨⟨_, _, _⟩, rfl, ?_⟩
        repeat (first | exact Below.refl _ _ | refine Below.drew ?_ | refine Below.setCell ?_ (by simp <;> omega) _ | refine Below.alloc ?_ (by simp <;> omega) _)))
end Go.Proofs.Yteilkigdlkeiaaa.Lf
