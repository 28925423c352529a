/- The printed generators of lives, as plain laws: Made, Time, pick. -/
import Derived.Test.YteilkigdlkeiaaaQ5
import Derived.Test.YteilkigdlkeiaaaQ6
import Derived.Test.YteilkigdlkeiaaaQ12
import Derived.Test.YteilkigdlkeiaaaG10
namespace Go.Proofs.Yteilkigdlkeiaaa.Q
open Go.RowKit Go.Proofs.YteilkigdlkeiaaaW.PrintWords Go.Proofs.YteilkigdlkeiaaaW.PrintLast Go.Proofs.YteilkigdlkeiaaaW.PrintMore
set_option linter.unusedVariables false
set_option linter.unusedSimpArgs false
open Go Lf

abbrev SX := S23
theorem w64 {n : Int} (h0 : -9223372036854775808 ≤ n) (h1 : n ≤ 9223372036854775807) : wrap64 n = n := by unfold wrap64; omega
theorem w_succ (i : Nat) (h : i ≤ 1000000000) : wrap64 ((i : Int) + 1) = ((i + 1 : Nat) : Int) := by unfold wrap64; omega
theorem w_pred (j : Nat) (h : j ≤ 1000000000) : wrap64 (((j + 1 : Nat) : Int) - 1) = (j : Int) := by unfold wrap64; omega
theorem pk_lt {c n : Int} (hn : 0 < n) : 0 ≤ pk c % n ∧ pk c % n < n := ⟨Int.emod_nonneg _ (by omega), Int.emod_lt_of_pos _ hn⟩
theorem pick_is {c n : Int} (hc : I64 c) (hn : 0 < n) : dialtoneref14_pick.f c n = some (pk c % n) := by
  unfold I64 at hc
  unfold dialtoneref14_pick.f pk
  by_cases h : c < 0
  · rw [if_pos h, if_neg (by omega), if_pos h, w64 (n := c + 1) (by omega) (by omega), w64 (n := -(c + 1)) (by omega) (by omega), Int.tmod_eq_emod_of_nonneg (by omega)]
  · rw [if_neg h, if_neg (by omega), if_neg h, Int.tmod_eq_emod_of_nonneg (by omega)]
theorem lpick_is {c n : Int} (hc : I64 c) (hn : 0 < n) : dialtonelaw14_pick.f c n = some (pk c % n) := pick_is hc hn
theorem i64_w (y : Int) : I64 (wrap64 y) := by unfold I64 wrap64; omega
theorem mx_is (a b : Int) : mx a b = if a < b then b else a := rfl
theorem mn_is (a b : Int) : mn a b = if b < a then b else a := rfl

theorem time_is (l : List SE) (x : Int) (hl : l.length ≤ 1000) (hx : I64 x) : ∃ t, dialtoneref14_Time.f l x = some t ∧ 0 ≤ t ∧ t ≤ 10000000 := by
  unfold dialtoneref14_Time.f
  rw [w64 (by omega) (by omega), pick_is hx (by omega)]
  simp only [Option.bind_some]
  have hp := pk_lt (c := x) (n := (l.length : Int) + 2) (by omega)
  have hb : ∀ y : Int, 0 ≤ mn (mx y 0) 10000000 ∧ mn (mx y 0) 10000000 ≤ 10000000 := fun y => by rw [mx_is, mn_is]; (repeat' split) <;> omega
  by_cases h1 : pk x % ((l.length : Int) + 2) < (l.length : Int)
  · rw [if_pos h1, if_pos hp.1, pick_is (i64_w _) (by decide)]
    exact ⟨_, rfl, hb _⟩
  · rw [if_neg h1]
    by_cases h2 : pk x % ((l.length : Int) + 2) = (l.length : Int)
    · rw [if_pos h2, pick_is (i64_w _) (by decide)]
      exact ⟨_, rfl, hb _⟩
    · rw [if_neg h2, pick_is (i64_w _) (by decide)]
      exact ⟨_, rfl, hb _⟩

def OkX (X : List SX) : Prop := X.length ≤ 140737488351232 ∧ ∀ x ∈ X, I64 x.f0 ∧ I64 x.f1 ∧ I64 x.f2
theorem rd_X {X : List SX} {i : Nat} (h : i < X.length) : rd_T23 X (i : Int) = X[i] := by
  unfold rd_T23
  simp [List.getD_eq_getElem?_getD, List.getElem?_eq_getElem h]
theorem rd_E {X : List SE} {i : Nat} (h : i < X.length) : rd_T54 X (i : Int) = X[i] := by
  unfold rd_T54
  simp [List.getD_eq_getElem?_getD, List.getElem?_eq_getElem h]
theorem rd_Y {X : List SY} {i : Nat} (h : i < X.length) : rd_T62 X (i : Int) = X[i] := by
  unfold rd_T62
  simp [List.getD_eq_getElem?_getD, List.getElem?_eq_getElem h]

theorem made_loop (X : List SX) (hX : OkX X) : ∀ (d i : Nat) (acc : List SE) (l : Ln), 16 - i = d → i ≤ X.length → i ≤ 16 → acc.length ≤ i → okFrom firstL (acc.map toEv) = true → lineFrom firstL (acc.map toEv) = l →
    ∃ L, Ev (fun k => dialtoneref14_Made.l0 k X acc (i : Int) l.st l.ho l.ep l.si) L ∧ okFrom firstL (L.map toEv) = true ∧ L.length ≤ 16 := by
  intro d
  induction d with
  | zero =>
    intro i acc l hd hi h16 hacc hok hl
    refine ⟨acc, ⟨2, fun k hk => ?_⟩, hok, by omega⟩
    obtain ⟨k, rfl⟩ : ∃ m, k = m + 2 := ⟨k - 2, by omega⟩
    have h16 : decide ((i : Int) < 16) = false := decide_eq_false (by omega)
    simp only [dialtoneref14_Made.l0, dialtoneref14_Made.j1, h16]
    split <;> rfl
  | succ d ih =>
    intro i acc l hd hi h16 hacc hok hl
    by_cases hlt : i < X.length
    · have hx := hX.2 X[i] (List.getElem_mem hlt)
      have hv : validB l = true := by rw [← hl]; exact good_line _ _ good_first
      generalize hev : afterE l ⟨X[i].f0, X[i].f1, X[i].f2⟩ = ev
      have hA : dialtoneref14_After.f l.st l.ho l.ep l.si X[i].f0 X[i].f1 X[i].f2 = some (evT ev) := by
        unfold dialtoneref14_After.f
        rw [if_pos (by simp only [Bool.and_eq_true, i64B_iff]; exact ⟨hv, hx.1, hx.2.1, hx.2.2⟩), ← hev]
      have hS : dialtoneref14_Step.f l.st l.ho l.ep l.si ev.k ev.a ev.h = some (stepT (Lf.step l ev)) := rfl
      have hdec : decide ((i : Int) < 16) = true := decide_eq_true (by omega)
      rcases hs : Lf.step l ev with _ | n
      · obtain ⟨L, ⟨K, hK⟩, h2, h3⟩ := ih (i + 1) acc l (by omega) (by omega) (by omega) (by omega) hok hl
        refine ⟨L, ⟨K + 2, fun k hk => ?_⟩, h2, h3⟩
        obtain ⟨k, rfl⟩ : ∃ m, k = m + 2 := ⟨k - 2, by omega⟩
        have := hK k (by omega)
        simp only [dialtoneref14_Made.l0, dialtoneref14_Made.j1, hdec, rd_X hlt]
        rw [if_pos (by omega), if_pos trivial, if_pos (by omega), if_pos (by omega), hA]
        simp only [Option.bind_some, evT]
        rw [hS, hs]
        simp only [Option.bind_some, stepT]
        rw [if_neg (by decide), w64 (by omega) (by omega)]
        exact this
      · have hok2 : okFrom firstL ((acc ++ [(⟨ev.k, ev.a, ev.h⟩ : SE)]).map toEv) = true ∧ lineFrom firstL ((acc ++ [(⟨ev.k, ev.a, ev.h⟩ : SE)]).map toEv) = n := by
          rw [List.map_append, ok_app, line_app _ _ _ hok, hok, hl]
          show (true && okFrom l [ev]) = true ∧ lineFrom l [ev] = n
          simp [okFrom, lineFrom, hs]
        obtain ⟨L, ⟨K, hK⟩, h2, h3⟩ := ih (i + 1) (acc ++ [(⟨ev.k, ev.a, ev.h⟩ : SE)]) n (by omega) (by omega) (by omega) (by simp; omega) hok2.1 hok2.2
        refine ⟨L, ⟨K + 2, fun k hk => ?_⟩, h2, h3⟩
        obtain ⟨k, rfl⟩ : ∃ m, k = m + 2 := ⟨k - 2, by omega⟩
        have := hK k (by omega)
        simp only [dialtoneref14_Made.l0, dialtoneref14_Made.j1, hdec, rd_X hlt]
        rw [if_pos (by omega), if_pos trivial, if_pos (by omega), if_pos (by omega), hA]
        simp only [Option.bind_some, evT]
        rw [hS, hs]
        simp only [Option.bind_some, stepT]
        rw [if_pos trivial, if_pos (by omega), w64 (by omega) (by omega)]
        exact this
    · refine ⟨acc, ⟨2, fun k hk => ?_⟩, hok, by omega⟩
      obtain ⟨k, rfl⟩ : ∃ m, k = m + 2 := ⟨k - 2, by omega⟩
      simp only [dialtoneref14_Made.l0, dialtoneref14_Made.j1]
      rw [if_neg (by omega)]
      rfl
theorem made_is (X : List SX) (hX : OkX X) : ∃ L, Ev (fun k => dialtoneref14_Made.f k X) L ∧ okFrom firstL (L.map toEv) = true ∧ L.length ≤ 16 := made_loop X hX 16 0 [] firstL rfl (by omega) (by omega) (by simp) rfl rfl

/-- an argument's reading, as the printed contracts want it -/
theorem triples_C {w : World} {A : Option Addr} {X : List Ev} (h : EvsIn w A X) (hn : X.length ≤ 140737488351232) : Kd.C k23 w A X.length (X.map fun e => (⟨e.k, e.a, e.h⟩ : SX)) := by
  refine ⟨by simp, by omega, fun hp => ?_⟩
  obtain ⟨ad, e, -⟩ := h 0 hp
  refine ⟨ad, e, fun j p hj => ?_⟩
  rw [List.getElem?_map] at hj
  obtain ⟨ev, hev, rfl⟩ := Option.map_eq_some_iff.1 hj
  obtain ⟨hl, rfl⟩ := List.getElem?_eq_some_iff.1 hev
  obtain ⟨ad', e', h0, h1, h2⟩ := h j hl
  rw [e] at e'
  cases e'
  refine ⟨[.int .i64 X[j].k, .int .i64 X[j].a, .int .i64 X[j].h], rfl, k23_mk w _, fun i u hi => ?_⟩
  have hi3 : i < 3 := (List.getElem?_eq_some_iff.1 hi).1
  match i, hi3 with
  | 0, _ => simp at hi; subst hi; exact h0
  | 1, _ => simp at hi; subst hi; rw [add_field _ _ 1 (by omega)]; exact h1
  | 2, _ => simp at hi; subst hi; rw [add_field _ _ 2 (by omega)]; exact h2
end Go.Proofs.Yteilkigdlkeiaaa.Q
