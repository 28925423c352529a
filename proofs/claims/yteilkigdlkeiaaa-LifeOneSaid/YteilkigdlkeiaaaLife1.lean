/- life: the small functions, by their contracts. -/
import Derived.Test.YteilkigdlkeiaaaProg
import Derived.Test.YteilkigdlkeiaaaLifeDefs
import Derived.WalkKit
import Derived.Below
import Derived.Lib.Hide
import Derived.Lib.QuietBelow
import Derived.BigQuiet
namespace Go.Proofs.Yteilkigdlkeiaaa.Lf
set_option linter.unusedVariables false
set_option linter.unusedSimpArgs false
open Go Go.RowKit

def Ln.v (l : Ln) : Value := .agg #[.int .i64 l.st, .int .i64 l.ho, .int .i64 l.ep, .int .i64 l.si]
def Ev.v (e : Ev) : Value := .agg #[.int .i64 e.k, .int .i64 e.a, .int .i64 e.h]

theorem isIn_any (n lo hi : Int) (w : World) :
    Calls Try.prog 47 #[.int .i64 n, .int .i64 lo, .int .i64 hi] w fun e w' => e = .returned (.bool (inB n lo hi)) ∧ w = w' := by
  by_cases h : lo ≤ n
  · have e : inB n lo hi = decide (n ≤ hi) := by simp [inB, h]
    rw [e]
    go_enter Try.func47, Try.ntmps47
    go_wp2
    go_ret
    exact ⟨rfl, rfl⟩
  · have e : inB n lo hi = false := by simp [inB, h]
    have h2 : decide (lo ≤ n) = false := decide_eq_false h
    rw [e]
    go_enter Try.func47, Try.ntmps47
    go_wp2
    go_ret
    exact ⟨rfl, rfl⟩

theorem in_any (n lo hi : Int) (w : World) :
    Calls Try.prog 48 #[.int .i64 n, .int .i64 lo, .int .i64 hi] w fun e w' => e = .returned (.bool (inB n lo hi)) ∧ w = w' := by
  by_cases h : lo ≤ n
  · have e : inB n lo hi = decide (n ≤ hi) := by simp [inB, h]
    rw [e]
    go_enter Try.func48, Try.ntmps48
    go_wp2
    go_ret
    exact ⟨rfl, rfl⟩
  · have e : inB n lo hi = false := by simp [inB, h]
    have h2 : decide (lo ≤ n) = false := decide_eq_false h
    rw [e]
    go_enter Try.func48, Try.ntmps48
    go_wp2
    go_ret
    exact ⟨rfl, rfl⟩

theorem valid_exact (l : Ln) (w : World) :
    Calls Try.prog 22 #[l.v] w fun e w' => e = .returned (.bool (validB l)) ∧ w' = w.alloc (.cells #[.int .i64 l.st, .int .i64 l.ho, .int .i64 l.ep, .int .i64 l.si] 26) := by
  obtain ⟨st, ho, ep, si⟩ := l
  have C := Lib.hid isIn_any
  have HV := Lib.hid (show validB ⟨st, ho, ep, si⟩ = (inB st 0 3 && inB ep 0 1000 && inB si 0 10000000 && (if st = 0 then ho == -1 else inB ho 0 63 && decide (1 ≤ ep))) from rfl)
  show Calls _ _ #[.agg #[.int .i64 st, .int .i64 ho, .int .i64 ep, .int .i64 si]] _ fun e w' => e = .returned (.bool (validB ⟨st, ho, ep, si⟩)) ∧ w' = w.alloc (.cells #[.int .i64 st, .int .i64 ho, .int .i64 ep, .int .i64 si] 26)
  generalize validB ⟨st, ho, ep, si⟩ = r at HV
  rcases h1 : inB st 0 3 with _ | _
  · obtain rfl : r = false := by rw [HV.out, h1]; rfl
    go_enter Try.func22, Try.ntmps22
    go_wp2_with (go_at_call 47; refine (C.out _ _ _ _).mono ?_; rintro e w' ⟨rfl, rfl⟩)
    go_ret
    exact ⟨rfl, rfl⟩
  rcases h2 : inB ep 0 1000 with _ | _
  · obtain rfl : r = false := by rw [HV.out, h1, h2]; rfl
    go_enter Try.func22, Try.ntmps22
    go_wp2_with (go_at_call 47; refine (C.out _ _ _ _).mono ?_; rintro e w' ⟨rfl, rfl⟩)
    go_ret
    exact ⟨rfl, rfl⟩
  rcases h3 : inB si 0 10000000 with _ | _
  · obtain rfl : r = false := by rw [HV.out, h1, h2, h3]; rfl
    go_enter Try.func22, Try.ntmps22
    go_wp2_with (go_at_call 47; refine (C.out _ _ _ _).mono ?_; rintro e w' ⟨rfl, rfl⟩)
    go_ret
    exact ⟨rfl, rfl⟩
  by_cases h0 : st = 0
  · obtain rfl : r = (ho == -1) := by rw [HV.out, h1, h2, h3, if_pos h0]; rfl
    subst h0
    go_enter Try.func22, Try.ntmps22
    go_wp2_with (go_at_call 47; refine (C.out _ _ _ _).mono ?_; rintro e w' ⟨rfl, rfl⟩)
    go_ret
    exact ⟨rfl, rfl⟩
  have hb : (st == 0) = false := by rw [beq_eq_false_iff_ne]; exact h0
  rcases h4 : inB ho 0 63 with _ | _
  · obtain rfl : r = false := by rw [HV.out, h1, h2, h3, if_neg h0, h4]; rfl
    go_enter Try.func22, Try.ntmps22
    go_wp2_with (go_at_call 47; refine (C.out _ _ _ _).mono ?_; rintro e w' ⟨rfl, rfl⟩)
    go_ret
    exact ⟨rfl, rfl⟩
  · obtain rfl : r = decide (1 ≤ ep) := by rw [HV.out, h1, h2, h3, if_neg h0, h4]; rfl
    go_enter Try.func22, Try.ntmps22
    go_wp2_with (go_at_call 47; refine (C.out _ _ _ _).mono ?_; rintro e w' ⟨rfl, rfl⟩)
    go_ret
    exact ⟨rfl, rfl⟩

theorem valid_any (l : Ln) (w : World) :
    Calls Try.prog 22 #[l.v] w fun e w' => e = .returned (.bool (validB l)) ∧ Below w.heap.size w w' :=
  (valid_exact l w).mono fun e w' ⟨h1, h2⟩ => ⟨h1, by rw [h2]; exact (Below.refl _ _).alloc (Nat.le_refl _) _⟩

theorem rvalid_exact (l : Ln) (w : World) :
    Calls Try.prog 23 #[l.v] w fun e w' => e = .returned (.bool (validB l)) ∧ w' = w.alloc (.cells #[.int .i64 l.st, .int .i64 l.ho, .int .i64 l.ep, .int .i64 l.si] 26) := by
  obtain ⟨st, ho, ep, si⟩ := l
  have C := Lib.hid in_any
  have HV := Lib.hid (show validB ⟨st, ho, ep, si⟩ = (inB st 0 3 && inB ep 0 1000 && inB si 0 10000000 && (if st = 0 then ho == -1 else inB ho 0 63 && decide (1 ≤ ep))) from rfl)
  show Calls _ _ #[.agg #[.int .i64 st, .int .i64 ho, .int .i64 ep, .int .i64 si]] _ fun e w' => e = .returned (.bool (validB ⟨st, ho, ep, si⟩)) ∧ w' = w.alloc (.cells #[.int .i64 st, .int .i64 ho, .int .i64 ep, .int .i64 si] 26)
  generalize validB ⟨st, ho, ep, si⟩ = r at HV
  rcases h1 : inB st 0 3 with _ | _
  · obtain rfl : r = false := by rw [HV.out, h1]; rfl
    go_enter Try.func23, Try.ntmps23
    go_wp2_with (go_at_call 48; refine (C.out _ _ _ _).mono ?_; rintro e w' ⟨rfl, rfl⟩)
    go_ret
    exact ⟨rfl, rfl⟩
  rcases h2 : inB ep 0 1000 with _ | _
  · obtain rfl : r = false := by rw [HV.out, h1, h2]; rfl
    go_enter Try.func23, Try.ntmps23
    go_wp2_with (go_at_call 48; refine (C.out _ _ _ _).mono ?_; rintro e w' ⟨rfl, rfl⟩)
    go_ret
    exact ⟨rfl, rfl⟩
  rcases h3 : inB si 0 10000000 with _ | _
  · obtain rfl : r = false := by rw [HV.out, h1, h2, h3]; rfl
    go_enter Try.func23, Try.ntmps23
    go_wp2_with (go_at_call 48; refine (C.out _ _ _ _).mono ?_; rintro e w' ⟨rfl, rfl⟩)
    go_ret
    exact ⟨rfl, rfl⟩
  by_cases h0 : st = 0
  · obtain rfl : r = (ho == -1) := by rw [HV.out, h1, h2, h3, if_pos h0]; rfl
    subst h0
    go_enter Try.func23, Try.ntmps23
    go_wp2_with (go_at_call 48; refine (C.out _ _ _ _).mono ?_; rintro e w' ⟨rfl, rfl⟩)
    go_ret
    exact ⟨rfl, rfl⟩
  have hb : (st == 0) = false := by rw [beq_eq_false_iff_ne]; exact h0
  rcases h4 : inB ho 0 63 with _ | _
  · obtain rfl : r = false := by rw [HV.out, h1, h2, h3, if_neg h0, h4]; rfl
    go_enter Try.func23, Try.ntmps23
    go_wp2_with (go_at_call 48; refine (C.out _ _ _ _).mono ?_; rintro e w' ⟨rfl, rfl⟩)
    go_ret
    exact ⟨rfl, rfl⟩
  · obtain rfl : r = decide (1 ≤ ep) := by rw [HV.out, h1, h2, h3, if_neg h0, h4]; rfl
    go_enter Try.func23, Try.ntmps23
    go_wp2_with (go_at_call 48; refine (C.out _ _ _ _).mono ?_; rintro e w' ⟨rfl, rfl⟩)
    go_ret
    exact ⟨rfl, rfl⟩

theorem rvalid_any (l : Ln) (w : World) :
    Calls Try.prog 23 #[l.v] w fun e w' => e = .returned (.bool (validB l)) ∧ Below w.heap.size w w' :=
  (rvalid_exact l w).mono fun e w' ⟨h1, h2⟩ => ⟨h1, by rw [h2]; exact (Below.refl _ _).alloc (Nat.le_refl _) _⟩

theorem named_any (k : Int) (w : World) :
    Calls Try.prog 52 #[.int .i64 k] w fun e w' => e = .returned (.bool (namedB k)) ∧ w = w' := by
  unfold namedB
  rcases h1 : (k == 1) with _ | _
  · go_enter Try.func52, Try.ntmps52
    go_wp2
    go_ret
    exact ⟨rfl, rfl⟩
  · go_enter Try.func52, Try.ntmps52
    go_wp2
    go_ret
    exact ⟨rfl, rfl⟩

theorem rules_any (w : World) :
    Calls Try.prog 50 #[] w fun e w' => e = .returned (.slice (some ⟨w.heap.size, 0, none⟩) 8 8) ∧ w' = w.alloc (.cells #[.int .i64 0, .int .i64 0, .bool false, .int .i64 1, .int .i64 1, .bool true, .int .i64 2, .int .i64 1, .bool true, .int .i64 2, .int .i64 2, .bool false, .int .i64 4, .int .i64 1, .bool false, .int .i64 6, .int .i64 3, .bool false, .int .i64 8, .int .i64 1, .bool false, .int .i64 8, .int .i64 0, .bool false] 85) := by
  go_enter Try.func50, Try.ntmps50
  go_wp2
  go_ret
  exact ⟨rfl, rfl⟩
end Go.Proofs.Yteilkigdlkeiaaa.Lf
