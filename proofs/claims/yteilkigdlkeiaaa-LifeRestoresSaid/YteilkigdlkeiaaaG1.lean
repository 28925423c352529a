/- The lives of numbers, as plain functions. life: the small functions, by their contracts. life: Formed, the small tests. life: First, possible, Step. life: Step, by its contract. -/
import Derived.Test.YteilkigdlkeiaaaProg
import Derived.WalkKit
import Derived.Below
import Derived.Lib.Hide
import Derived.Lib.QuietBelow
import Derived.BigQuiet
import Derived.Deep.RegionWith
import Derived.Laws.ResultCell
import Derived.Deep.CutRange
namespace Go.Proofs.Yteilkigdlkeiaaa.Lf
set_option linter.unusedVariables false
set_option linter.unusedSimpArgs false

/-- a line: state, holder, epoch, since -/
structure Ln where
  st : Int
  ho : Int
  ep : Int
  si : Int
deriving DecidableEq

/-- an event: kind, when, holder -/
structure Ev where
  k : Int
  a : Int
  h : Int
deriving DecidableEq

def inB (n lo hi : Int) : Bool := decide (lo ≤ n) && decide (n ≤ hi)
def validB (l : Ln) : Bool := inB l.st 0 3 && inB l.ep 0 1000 && inB l.si 0 10000000 && (if l.st = 0 then l.ho == -1 else inB l.ho 0 63 && decide (1 ≤ l.ep))
def namedB (k : Int) : Bool := k == 1 || k == 2
def formedB (e : Ev) : Bool := inB e.k 1 7 && inB e.a 0 10000000 && (if namedB e.k then inB e.h 0 63 else e.h == -1)
/-- may the (formed) event follow the (valid) line? -/
def mayB (l : Ln) (e : Ev) : Bool :=
  decide (l.si ≤ e.a) && (if e.k = 1 then l.st == 0 && decide (l.ep < 1000) else if e.k = 2 then l.st == 1 && (l.ho != e.h) && decide (l.ep < 1000) else if e.k = 3 then l.st == 1 else if e.k = 4 then l.st == 2 else if e.k = 5 then l.st == 1 || l.st == 2 else if e.k = 6 then l.st == 3 else l.st == 3 && decide (l.si + 2592000 ≤ e.a))
/-- the line after an event that may follow -/
def nextL (l : Ln) (e : Ev) : Ln :=
  if namedB e.k then ⟨1, e.h, l.ep + 1, e.a⟩ else if e.k = 3 then ⟨2, l.ho, l.ep, e.a⟩ else if e.k = 4 then ⟨1, l.ho, l.ep, e.a⟩ else if e.k = 6 then ⟨1, l.ho, l.ep, e.a⟩ else if e.k = 5 then ⟨3, l.ho, l.ep, e.a⟩ else ⟨0, -1, l.ep, e.a⟩
/-- the line after an event -/
def step (l : Ln) (e : Ev) : Option Ln := if validB l && formedB e && mayB l e then some (nextL l e) else none

def usedB (l : Ln) : Bool := l.st == 1 || l.st == 2
def zeroL : Ln := ⟨0, 0, 0, 0⟩
def firstL : Ln := ⟨0, -1, 0, 0⟩

end Go.Proofs.Yteilkigdlkeiaaa.Lf

namespace Go.Proofs.Yteilkigdlkeiaaa.Lf
set_option linter.unusedVariables false
set_option linter.unusedSimpArgs false
open Go Go.RowKit

def Ln.v (l : Ln) : Value := .agg #[.int .i64 l.st, .int .i64 l.ho, .int .i64 l.ep, .int .i64 l.si]
def Ev.v (e : Ev) : Value := .agg #[.int .i64 e.k, .int .i64 e.a, .int .i64 e.h]

theorem isIn_any (n lo hi : Int) (w : World) :
    Calls Try.prog 47 #[.int .i64 n, .int .i64 lo, .int .i64 hi] w fun e w' => e = .returned (.bool (inB n lo hi)) ∧ w = w' := by
  by_cases h : lo ≤ n
  · have e : inB n lo hi = decide (n ≤ hi) := by simp [inB, h]
    rw [e]
    go_enter Try.func47, Try.ntmps47
    go_wp2
    go_ret
    exact ⟨rfl, rfl⟩
  · have e : inB n lo hi = false := by simp [inB, h]
    have h2 : decide (lo ≤ n) = false := decide_eq_false h
    rw [e]
    go_enter Try.func47, Try.ntmps47
    go_wp2
    go_ret
    exact ⟨rfl, rfl⟩

theorem in_any (n lo hi : Int) (w : World) :
    Calls Try.prog 48 #[.int .i64 n, .int .i64 lo, .int .i64 hi] w fun e w' => e = .returned (.bool (inB n lo hi)) ∧ w = w' := by
  by_cases h : lo ≤ n
  · have e : inB n lo hi = decide (n ≤ hi) := by simp [inB, h]
    rw [e]
    go_enter Try.func48, Try.ntmps48
    go_wp2
    go_ret
    exact ⟨rfl, rfl⟩
  · have e : inB n lo hi = false := by simp [inB, h]
    have h2 : decide (lo ≤ n) = false := decide_eq_false h
    rw [e]
    go_enter Try.func48, Try.ntmps48
    go_wp2
    go_ret
    exact ⟨rfl, rfl⟩

theorem valid_exact (l : Ln) (w : World) :
    Calls Try.prog 22 #[l.v] w fun e w' => e = .returned (.bool (validB l)) ∧ w' = w.alloc (.cells #[.int .i64 l.st, .int .i64 l.ho, .int .i64 l.ep, .int .i64 l.si] 26) := by
  obtain ⟨st, ho, ep, si⟩ := l
  have C := Lib.hid isIn_any
  have HV := Lib.hid (show validB ⟨st, ho, ep, si⟩ = (inB st 0 3 && inB ep 0 1000 && inB si 0 10000000 && (if st = 0 then ho == -1 else inB ho 0 63 && decide (1 ≤ ep))) from rfl)
  show Calls _ _ #[.agg #[.int .i64 st, .int .i64 ho, .int .i64 ep, .int .i64 si]] _ fun e w' => e = .returned (.bool (validB ⟨st, ho, ep, si⟩)) ∧ w' = w.alloc (.cells #[.int .i64 st, .int .i64 ho, .int .i64 ep, .int .i64 si] 26)
  generalize validB ⟨st, ho, ep, si⟩ = r at HV
  rcases h1 : inB st 0 3 with _ | _
  · obtain rfl : r = false := by rw [HV.out, h1]; rfl
    go_enter Try.func22, Try.ntmps22
    go_wp2_with (go_at_call 47; refine (C.out _ _ _ _).mono ?_; rintro e w' ⟨rfl, rfl⟩)
    go_ret
    exact ⟨rfl, rfl⟩
  rcases h2 : inB ep 0 1000 with _ | _
  · obtain rfl : r = false := by rw [HV.out, h1, h2]; rfl
    go_enter Try.func22, Try.ntmps22
    go_wp2_with (go_at_call 47; refine (C.out _ _ _ _).mono ?_; rintro e w' ⟨rfl, rfl⟩)
    go_ret
    exact ⟨rfl, rfl⟩
  rcases h3 : inB si 0 10000000 with _ | _
  · obtain rfl : r = false := by rw [HV.out, h1, h2, h3]; rfl
    go_enter Try.func22, Try.ntmps22
    go_wp2_with (go_at_call 47; refine (C.out _ _ _ _).mono ?_; rintro e w' ⟨rfl, rfl⟩)
    go_ret
    exact ⟨rfl, rfl⟩
  by_cases h0 : st = 0
  · obtain rfl : r = (ho == -1) := by rw [HV.out, h1, h2, h3, if_pos h0]; rfl
    subst h0
    go_enter Try.func22, Try.ntmps22
    go_wp2_with (go_at_call 47; refine (C.out _ _ _ _).mono ?_; rintro e w' ⟨rfl, rfl⟩)
    go_ret
    exact ⟨rfl, rfl⟩
  have hb : (st == 0) = false := by rw [beq_eq_false_iff_ne]; exact h0
  rcases h4 : inB ho 0 63 with _ | _
  · obtain rfl : r = false := by rw [HV.out, h1, h2, h3, if_neg h0, h4]; rfl
    go_enter Try.func22, Try.ntmps22
    go_wp2_with (go_at_call 47; refine (C.out _ _ _ _).mono ?_; rintro e w' ⟨rfl, rfl⟩)
    go_ret
    exact ⟨rfl, rfl⟩
  · obtain rfl : r = decide (1 ≤ ep) := by rw [HV.out, h1, h2, h3, if_neg h0, h4]; rfl
    go_enter Try.func22, Try.ntmps22
    go_wp2_with (go_at_call 47; refine (C.out _ _ _ _).mono ?_; rintro e w' ⟨rfl, rfl⟩)
    go_ret
    exact ⟨rfl, rfl⟩

theorem valid_any (l : Ln) (w : World) :
    Calls Try.prog 22 #[l.v] w fun e w' => e = .returned (.bool (validB l)) ∧ Below w.heap.size w w' :=
  (valid_exact l w).mono fun e w' ⟨h1, h2⟩ => ⟨h1, by rw [h2]; exact (Below.refl _ _).alloc (Nat.le_refl _) _⟩

theorem rvalid_exact (l : Ln) (w : World) :
    Calls Try.prog 23 #[l.v] w fun e w' => e = .returned (.bool (validB l)) ∧ w' = w.alloc (.cells #[.int .i64 l.st, .int .i64 l.ho, .int .i64 l.ep, .int .i64 l.si] 26) := by
  obtain ⟨st, ho, ep, si⟩ := l
  have C := Lib.hid in_any
  have HV := Lib.hid (show validB ⟨st, ho, ep, si⟩ = (inB st 0 3 && inB ep 0 1000 && inB si 0 10000000 && (if st = 0 then ho == -1 else inB ho 0 63 && decide (1 ≤ ep))) from rfl)
  show Calls _ _ #[.agg #[.int .i64 st, .int .i64 ho, .int .i64 ep, .int .i64 si]] _ fun e w' => e = .returned (.bool (validB ⟨st, ho, ep, si⟩)) ∧ w' = w.alloc (.cells #[.int .i64 st, .int .i64 ho, .int .i64 ep, .int .i64 si] 26)
  generalize validB ⟨st, ho, ep, si⟩ = r at HV
  rcases h1 : inB st 0 3 with _ | _
  · obtain rfl : r = false := by rw [HV.out, h1]; rfl
    go_enter Try.func23, Try.ntmps23
    go_wp2_with (go_at_call 48; refine (C.out _ _ _ _).mono ?_; rintro e w' ⟨rfl, rfl⟩)
    go_ret
    exact ⟨rfl, rfl⟩
  rcases h2 : inB ep 0 1000 with _ | _
  · obtain rfl : r = false := by rw [HV.out, h1, h2]; rfl
    go_enter Try.func23, Try.ntmps23
    go_wp2_with (go_at_call 48; refine (C.out _ _ _ _).mono ?_; rintro e w' ⟨rfl, rfl⟩)
    go_ret
    exact ⟨rfl, rfl⟩
  rcases h3 : inB si 0 10000000 with _ | _
  · obtain rfl : r = false := by rw [HV.out, h1, h2, h3]; rfl
    go_enter Try.func23, Try.ntmps23
    go_wp2_with (go_at_call 48; refine (C.out _ _ _ _).mono ?_; rintro e w' ⟨rfl, rfl⟩)
    go_ret
    exact ⟨rfl, rfl⟩
  by_cases h0 : st = 0
  · obtain rfl : r = (ho == -1) := by rw [HV.out, h1, h2, h3, if_pos h0]; rfl
    subst h0
    go_enter Try.func23, Try.ntmps23
    go_wp2_with (go_at_call 48; refine (C.out _ _ _ _).mono ?_; rintro e w' ⟨rfl, rfl⟩)
    go_ret
    exact ⟨rfl, rfl⟩
  have hb : (st == 0) = false := by rw [beq_eq_false_iff_ne]; exact h0
  rcases h4 : inB ho 0 63 with _ | _
  · obtain rfl : r = false := by rw [HV.out, h1, h2, h3, if_neg h0, h4]; rfl
    go_enter Try.func23, Try.ntmps23
    go_wp2_with (go_at_call 48; refine (C.out _ _ _ _).mono ?_; rintro e w' ⟨rfl, rfl⟩)
    go_ret
    exact ⟨rfl, rfl⟩
  · obtain rfl : r = decide (1 ≤ ep) := by rw [HV.out, h1, h2, h3, if_neg h0, h4]; rfl
    go_enter Try.func23, Try.ntmps23
    go_wp2_with (go_at_call 48; refine (C.out _ _ _ _).mono ?_; rintro e w' ⟨rfl, rfl⟩)
    go_ret
    exact ⟨rfl, rfl⟩

theorem rvalid_any (l : Ln) (w : World) :
    Calls Try.prog 23 #[l.v] w fun e w' => e = .returned (.bool (validB l)) ∧ Below w.heap.size w w' :=
  (rvalid_exact l w).mono fun e w' ⟨h1, h2⟩ => ⟨h1, by rw [h2]; exact (Below.refl _ _).alloc (Nat.le_refl _) _⟩

theorem named_any (k : Int) (w : World) :
    Calls Try.prog 52 #[.int .i64 k] w fun e w' => e = .returned (.bool (namedB k)) ∧ w = w' := by
  unfold namedB
  rcases h1 : (k == 1) with _ | _
  · go_enter Try.func52, Try.ntmps52
    go_wp2
    go_ret
    exact ⟨rfl, rfl⟩
  · go_enter Try.func52, Try.ntmps52
    go_wp2
    go_ret
    exact ⟨rfl, rfl⟩

theorem rules_any (w : World) :
    Calls Try.prog 50 #[] w fun e w' => e = .returned (.slice (some ⟨w.heap.size, 0, none⟩) 8 8) ∧ w' = w.alloc (.cells #[.int .i64 0, .int .i64 0, .bool false, .int .i64 1, .int .i64 1, .bool true, .int .i64 2, .int .i64 1, .bool true, .int .i64 2, .int .i64 2, .bool false, .int .i64 4, .int .i64 1, .bool false, .int .i64 6, .int .i64 3, .bool false, .int .i64 8, .int .i64 1, .bool false, .int .i64 8, .int .i64 0, .bool false] 85) := by
  go_enter Try.func50, Try.ntmps50
  go_wp2
  go_ret
  exact ⟨rfl, rfl⟩
end Go.Proofs.Yteilkigdlkeiaaa.Lf

namespace Go.Proofs.Yteilkigdlkeiaaa.Lf
set_option linter.unusedVariables false
set_option linter.unusedSimpArgs false
open Go Go.RowKit

theorem below_two (w : World) (o1 o2 : Obj) : Below w.heap.size w ((w.alloc o1).alloc o2).drew := (((Below.refl _ _).alloc (Nat.le_refl _) o1).alloc (by simp) o2).drew
theorem ret_bool {a b : Bool} (h : a = b) : Ending.returned (.bool a) = .returned (.bool b) := by rw [h]

def ruleCells : Array Value := #[.int .i64 0, .int .i64 0, .bool false, .int .i64 1, .int .i64 1, .bool true, .int .i64 2, .int .i64 1, .bool true, .int .i64 2, .int .i64 2, .bool false, .int .i64 4, .int .i64 1, .bool false, .int .i64 6, .int .i64 3, .bool false, .int .i64 8, .int .i64 1, .bool false, .int .i64 8, .int .i64 0, .bool false]

set_option maxHeartbeats 4000000 in
theorem formed_exact (e : Ev) (w : World) :
    Calls Try.prog 34 #[e.v] w fun e' w' => e' = .returned (.bool (formedB e)) ∧ ((formedB e = false ∧ w' = w.alloc (.cells #[.int .i64 e.k, .int .i64 e.a, .int .i64 e.h] 54)) ∨ w' = ((w.alloc (.cells #[.int .i64 e.k, .int .i64 e.a, .int .i64 e.h] 54)).alloc (.cells ruleCells 85)).drew) := by
  obtain ⟨k, a, h⟩ := e
  have C := Lib.hid isIn_any
  have HV := Lib.hid (show formedB ⟨k, a, h⟩ = (inB k 1 7 && inB a 0 10000000 && (if namedB k then inB h 0 63 else h == -1)) from rfl)
  show Calls _ _ #[.agg #[.int .i64 k, .int .i64 a, .int .i64 h]] _ fun e' w' => e' = .returned (.bool (formedB ⟨k, a, h⟩)) ∧ ((formedB ⟨k, a, h⟩ = false ∧ w' = w.alloc (.cells #[.int .i64 k, .int .i64 a, .int .i64 h] 54)) ∨ w' = ((w.alloc (.cells #[.int .i64 k, .int .i64 a, .int .i64 h] 54)).alloc (.cells ruleCells 85)).drew)
  generalize formedB ⟨k, a, h⟩ = r at HV
  rcases h1 : inB k 1 7 with _ | _
  · obtain rfl : r = false := by rw [HV.out, h1]; rfl
    go_enter Try.func34, Try.ntmps34
    go_wp2_with (go_at_call 47; refine (C.out _ _ _ _).mono ?_; rintro e w' ⟨rfl, rfl⟩)
    go_ret
    exact ⟨rfl, .inl ⟨by simp, rfl⟩⟩
  rcases h2 : inB a 0 10000000 with _ | _
  · obtain rfl : r = false := by rw [HV.out, h1, h2]; rfl
    go_enter Try.func34, Try.ntmps34
    go_wp2_with (go_at_call 47; refine (C.out _ _ _ _).mono ?_; rintro e w' ⟨rfl, rfl⟩)
    go_ret
    exact ⟨rfl, .inl ⟨by simp, rfl⟩⟩
  have hk : k = 1 ∨ k = 2 ∨ k = 3 ∨ k = 4 ∨ k = 5 ∨ k = 6 ∨ k = 7 := by simp only [inB, Bool.and_eq_true, decide_eq_true_eq] at h1; omega
  have HR := Lib.hid (show r = if namedB k then inB h 0 63 else h == -1 by rw [HV.out, h1, h2]; rfl)
  clear HV
  rcases hk with rfl | rfl | rfl | rfl | rfl | rfl | rfl
  all_goals (
    go_enter Try.func34, Try.ntmps34
    go_wp2_with (go_at_call 47; refine (C.out _ _ _ _).mono ?_; rintro e w' ⟨rfl, rfl⟩)
    go_region_with (go_at_call 50; refine (rules_any _).mono ?_; rintro e w' ⟨rfl, rfl⟩)
    all_goals (
      go_wp2_with (go_at_call 47; refine (C.out _ _ _ _).mono ?_; rintro e w' ⟨rfl, rfl⟩)
      go_ret
      exact ⟨ret_bool (by rw [HR.out]; rfl), Or.inr rfl⟩))

theorem formed_any (e : Ev) (w : World) :
    Calls Try.prog 34 #[e.v] w fun e' w' => e' = .returned (.bool (formedB e)) ∧ Below w.heap.size w w' :=
  (formed_exact e w).mono fun e' w' ⟨h1, h2⟩ => ⟨h1, by
    rcases h2 with ⟨_, h2⟩ | h2
    · rw [h2]; exact (Below.refl _ _).alloc (Nat.le_refl _) _
    · rw [h2]; exact below_two _ _ _⟩

theorem rformed_any (e : Ev) (w : World) :
    Calls Try.prog 35 #[e.v] w fun e' w' => e' = .returned (.bool (formedB e)) ∧ Below w.heap.size w w' := by
  obtain ⟨k, a, h⟩ := e
  have C := Lib.hid in_any
  have CN := Lib.hid named_any
  have HV := Lib.hid (show formedB ⟨k, a, h⟩ = (inB k 1 7 && inB a 0 10000000 && (if namedB k then inB h 0 63 else h == -1)) from rfl)
  show Calls _ _ #[.agg #[.int .i64 k, .int .i64 a, .int .i64 h]] _ _
  generalize formedB ⟨k, a, h⟩ = r at HV
  rcases h1 : inB k 1 7 with _ | _ <;> rcases h2 : inB a 0 10000000 with _ | _ <;> rcases h3 : namedB k with _ | _
  all_goals (
    rw [h1, h2, h3] at HV
    go_enter Try.func35, Try.ntmps35
    go_wp2_with (first | (go_at_call 48; refine (C.out _ _ _ _).mono ?_; rintro e w' ⟨rfl, rfl⟩) | (go_at_call 52; refine (CN.out _ _).mono ?_; rintro e w' ⟨rfl, rfl⟩))
    go_ret
    exact ⟨ret_bool (by rw [HV.out]; rfl), (Below.refl _ _).alloc (Nat.le_refl _) _⟩)

theorem used_any (l : Ln) (w : World) :
    Calls Try.prog 43 #[l.v] w fun e' w' => e' = .returned (.bool (usedB l)) ∧ Below w.heap.size w w' := by
  obtain ⟨st, ho, ep, si⟩ := l
  show Calls _ _ #[.agg #[.int .i64 st, .int .i64 ho, .int .i64 ep, .int .i64 si]] _ fun e' w' => e' = .returned (.bool (st == 1 || st == 2)) ∧ _
  rcases h1 : (st == 1) with _ | _
  all_goals (
    go_enter Try.func43, Try.ntmps43
    go_wp2
    go_ret
    exact ⟨rfl, (Below.refl _ _).alloc (Nat.le_refl _) _⟩)

theorem rused_any (l : Ln) (w : World) :
    Calls Try.prog 46 #[l.v] w fun e' w' => e' = .returned (.bool (usedB l)) ∧ Below w.heap.size w w' := by
  obtain ⟨st, ho, ep, si⟩ := l
  show Calls _ _ #[.agg #[.int .i64 st, .int .i64 ho, .int .i64 ep, .int .i64 si]] _ fun e' w' => e' = .returned (.bool (st == 1 || st == 2)) ∧ _
  rcases h1 : (st == 1) with _ | _
  all_goals (
    go_enter Try.func46, Try.ntmps46
    go_wp2
    go_ret
    exact ⟨rfl, (Below.refl _ _).alloc (Nat.le_refl _) _⟩)

end Go.Proofs.Yteilkigdlkeiaaa.Lf

namespace Go.Proofs.Yteilkigdlkeiaaa.Lf
set_option linter.unusedVariables false
set_option linter.unusedSimpArgs false
open Go Go.RowKit

theorem results_cell1 {fn : Func} {p : Tmp} {ty : TypeId} (h : fn.results = #[.cell p ty]) (tmps : Array Value) (P : Program) (w : World) :
    (results fn tmps).run P w = ((asAddr (tmps.getD p undef)).run P w).andThen fun a w₁ => (loadVar ty a).run P w₁ := by
  simp only [results, h]
  simp [Sem.run_bind, Result.andThen]

theorem first_any (w : World) :
    Calls Try.prog 39 #[] w fun e' w' => e' = .returned firstL.v ∧ Below w.heap.size w w' := by
  go_enter Try.func39, Try.ntmps39
  go_wp2
  refine bodyPost_ret (v := firstL.v) (by rw [results_cell1 rfl]; go_simp; rfl) rfl ⟨rfl, (Below.refl _ _).alloc (Nat.le_refl _) _⟩

def lineCells (l : Ln) : Array Value := #[.int .i64 l.st, .int .i64 l.ho, .int .i64 l.ep, .int .i64 l.si]
def evCells (e : Ev) : Array Value := #[.int .i64 e.k, .int .i64 e.a, .int .i64 e.h]

end Go.Proofs.Yteilkigdlkeiaaa.Lf

namespace Go.Proofs.Yteilkigdlkeiaaa.Lf
set_option linter.unusedVariables false
set_option linter.unusedSimpArgs false
open Go Go.RowKit

def stepV (o : Option Ln) : Value := match o with
  | some l => .tuple #[l.v, .int .i64 0]
  | none => .tuple #[zeroL.v, .int .i64 140]

theorem valid_facts {st ho ep si : Int} (h : validB ⟨st, ho, ep, si⟩ = true) : (st = 0 ∨ st = 1 ∨ st = 2 ∨ st = 3) ∧ 0 ≤ ep ∧ ep ≤ 1000 ∧ 0 ≤ si ∧ si ≤ 10000000 ∧ -1 ≤ ho ∧ ho ≤ 63 ∧ (st = 0 → ho = -1) := by
  simp only [validB, inB, Bool.and_eq_true, decide_eq_true_eq] at h
  obtain ⟨⟨⟨h1, h2⟩, h3⟩, h4⟩ := h
  by_cases h0 : st = 0
  · rw [if_pos h0, beq_iff_eq] at h4
    omega
  · rw [if_neg h0] at h4
    simp only [Bool.and_eq_true, decide_eq_true_eq] at h4
    omega

theorem formed_facts {k a h : Int} (hf : formedB ⟨k, a, h⟩ = true) : 1 ≤ k ∧ k ≤ 7 ∧ 0 ≤ a ∧ a ≤ 10000000 ∧ -1 ≤ h ∧ h ≤ 63 ∧ (namedB k = true → 0 ≤ h) := by
  simp only [formedB, inB, Bool.and_eq_true, decide_eq_true_eq] at hf
  obtain ⟨⟨h1, h2⟩, h3⟩ := hf
  rcases hn : namedB k with _ | _
  · rw [hn, if_neg (by simp), beq_iff_eq] at h3
    refine ⟨h1.1, h1.2, h2.1, h2.2, by omega, by omega, fun hh => by cases hh⟩
  · rw [hn, if_pos rfl] at h3
    simp only [Bool.and_eq_true, decide_eq_true_eq] at h3
    refine ⟨h1.1, h1.2, h2.1, h2.2, by omega, by omega, fun _ => h3.1⟩

theorem below_3 (w : World) (o1 o2 o3 : Obj) : Below w.heap.size w (((w.alloc o1).alloc o2).alloc o3) := (((Below.refl _ _).alloc (Nat.le_refl _) o1).alloc (by simp) o2).alloc (by simp; omega) o3

/-- the early ways out -/
theorem step_early (l : Ln) (e : Ev) (w : World) (h : validB l = false ∨ (validB l = true ∧ formedB e = false) ∨ (validB l = true ∧ formedB e = true ∧ e.a < l.si)) :
    Calls Try.prog 32 #[l.v, e.v] w fun e' w' => e' = .returned (stepV none) ∧ Below w.heap.size w w' := by
  obtain ⟨st, ho, ep, si⟩ := l
  obtain ⟨k, a, h'⟩ := e
  have C1 := Lib.hid (valid_exact ⟨st, ho, ep, si⟩)
  have C2 := Lib.hid (formed_exact ⟨k, a, h'⟩)
  rcases h with h1 | ⟨h1, h2⟩ | ⟨h1, h2, h3⟩
  · rw [h1] at C1
    show Calls _ _ #[.agg #[.int .i64 st, .int .i64 ho, .int .i64 ep, .int .i64 si], .agg #[.int .i64 k, .int .i64 a, .int .i64 h']] _ _
    go_enter Try.func32, Try.ntmps32
    go_wp2_with fail
    refine (C1.out _).mono ?_
    rintro e w1 ⟨rfl, rfl⟩
    go_wp2_with fail
    refine bodyPost_ret (v := stepV none) (by rw [results_cell_tmp rfl]; go_simp; rfl) rfl ⟨rfl, ?_⟩
    repeat (first | exact Below.refl _ _ | refine Below.drew ?_ | refine Below.setCell ?_ (by simp <;> omega) _ | refine Below.alloc ?_ (by simp <;> omega) _)
  · rw [h1] at C1
    rw [h2] at C2
    show Calls _ _ #[.agg #[.int .i64 st, .int .i64 ho, .int .i64 ep, .int .i64 si], .agg #[.int .i64 k, .int .i64 a, .int .i64 h']] _ _
    go_enter Try.func32, Try.ntmps32
    go_wp2_with fail
    refine (C1.out _).mono ?_
    rintro e w1 ⟨rfl, rfl⟩
    go_wp2_with fail
    refine (C2.out _).mono ?_
    rintro e w1 ⟨rfl, ⟨-, rfl⟩ | rfl⟩
    all_goals (
      go_wp2_with fail
      refine bodyPost_ret (v := stepV none) (by rw [results_cell_tmp rfl]; go_simp; rfl) rfl ⟨rfl, ?_⟩
      repeat (first | exact Below.refl _ _ | refine Below.drew ?_ | refine Below.setCell ?_ (by simp <;> omega) _ | refine Below.alloc ?_ (by simp <;> omega) _))
  · rw [h1] at C1
    rw [h2] at C2
    have h3' : a < si := h3
    show Calls _ _ #[.agg #[.int .i64 st, .int .i64 ho, .int .i64 ep, .int .i64 si], .agg #[.int .i64 k, .int .i64 a, .int .i64 h']] _ _
    go_enter Try.func32, Try.ntmps32
    go_wp2_with fail
    refine (C1.out _).mono ?_
    rintro e w1 ⟨rfl, rfl⟩
    go_wp2_with fail
    refine (C2.out _).mono ?_
    rintro e w1 ⟨rfl, ⟨-, rfl⟩ | rfl⟩
    all_goals (
      go_wp2_with fail
      refine bodyPost_ret (v := stepV none) (by rw [results_cell_tmp rfl]; go_simp; rfl) rfl ⟨rfl, ?_⟩
      repeat (first | exact Below.refl _ _ | refine Below.drew ?_ | refine Below.setCell ?_ (by simp <;> omega) _ | refine Below.alloc ?_ (by simp <;> omega) _))

theorem formed_true (k a h : Int) (hf : formedB ⟨k, a, h⟩ = true) (w : World) :
    Calls Try.prog 34 #[.agg #[.int .i64 k, .int .i64 a, .int .i64 h]] w fun e' w' => e' = .returned (.bool true) ∧ w' = ((w.alloc (.cells #[.int .i64 k, .int .i64 a, .int .i64 h] 54)).alloc (.cells ruleCells 85)).drew :=
  (formed_exact ⟨k, a, h⟩ w).mono fun e' w' ⟨h1, h2⟩ => ⟨by rw [h1, hf], by
    rcases h2 with ⟨h3, _⟩ | h2
    · rw [hf] at h3; cases h3
    · exact h2⟩

theorem rules_any' (w : World) :
    Calls Try.prog 50 #[] w fun e w' => e = .returned (.slice (some ⟨w.heap.size, 0, none⟩) 8 8) ∧ w' = w.alloc (.cells ruleCells 85) := rules_any w

end Go.Proofs.Yteilkigdlkeiaaa.Lf
