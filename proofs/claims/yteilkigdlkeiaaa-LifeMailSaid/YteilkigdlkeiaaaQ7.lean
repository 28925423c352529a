/- Printed out of the translation by a program: functions and their contracts. -/
import Derived.Test.YteilkigdlkeiaaaQ0
import Derived.Test.YteilkigdlkeiaaaQ2
import Derived.Test.YteilkigdlkeiaaaQ5
import Derived.Test.YteilkigdlkeiaaaQ6
import Derived.Test.YteilkigdlkeiaaaEx
namespace Go.Proofs.Yteilkigdlkeiaaa.Q
attribute [local go_sem] Go.Proofs.Yteilkigdlkeiaaa.St.cell_map Option.map_some
open Go.RowKit Go.Proofs.YteilkigdlkeiaaaW.PrintWords Go.Proofs.YteilkigdlkeiaaaW.PrintLast Go.Proofs.YteilkigdlkeiaaaW.PrintMore
attribute [local go_sem] max2_int min2_int max_two min_two max_three min_three max_four min_four   -- for this text's walks alone
set_option linter.unusedVariables false
set_option linter.unusedSimpArgs false

attribute [local go_sem high] eqA28
/-! ### dialtonelaw14_LifeMail: function 5 -/
mutual
def dialtonelaw14_LifeMail.j0 : Nat → List (S54) → Int → Int → Int → Bool → Int → Int → Int → Int → Int → Int → Option (Bool)
  | 0, _, _, _, _, _, _, _, _, _, _, _ => none
  | k + 1, x9, x11, x12, x16, x68, x139000, x139001, x139002, x139003, x143000, x143001 => if x68 = true then (some false) else (if x16 = 0 then ((life_Fate.f x9 x143000 x143001 x11).bind fun bt143 => ((life_Fate.f x9 x143000 x143001 x12).bind fun bt146 => ((life_At.f x9 x11).bind fun bt149 => (if bt143.2.2 = 0 then (if bt146.2.2 = 0 then (if bt149.2.2.2.2 = 0 then (if bt143.1 < 1 then (dialtonelaw14_LifeMail.j1 k bt143.1 bt143.2.1 bt146.1 bt146.2.1 true x139000 x139001 x139002 x139003 x143000 x143001 bt149.1 bt149.2.1 bt149.2.2.1 bt149.2.2.2.1) else (if bt143.1 > 3 then (dialtonelaw14_LifeMail.j1 k bt143.1 bt143.2.1 bt146.1 bt146.2.1 true x139000 x139001 x139002 x139003 x143000 x143001 bt149.1 bt149.2.1 bt149.2.2.1 bt149.2.2.2.1) else (if bt146.1 < 1 then (dialtonelaw14_LifeMail.j1 k bt143.1 bt143.2.1 bt146.1 bt146.2.1 true x139000 x139001 x139002 x139003 x143000 x143001 bt149.1 bt149.2.1 bt149.2.2.1 bt149.2.2.2.1) else (dialtonelaw14_LifeMail.j1 k bt143.1 bt143.2.1 bt146.1 bt146.2.1 (decide (bt146.1 > 3)) x139000 x139001 x139002 x139003 x143000 x143001 bt149.1 bt149.2.1 bt149.2.2.1 bt149.2.2.2.1)))) else (dialtonelaw14_LifeMail.j1 k bt143.1 bt143.2.1 bt146.1 bt146.2.1 true x139000 x139001 x139002 x139003 x143000 x143001 bt149.1 bt149.2.1 bt149.2.2.1 bt149.2.2.2.1)) else (dialtonelaw14_LifeMail.j1 k bt143.1 bt143.2.1 bt146.1 bt146.2.1 true x139000 x139001 x139002 x139003 x143000 x143001 bt149.1 bt149.2.1 bt149.2.2.1 bt149.2.2.2.1)) else (dialtonelaw14_LifeMail.j1 k bt143.1 bt143.2.1 bt146.1 bt146.2.1 true x139000 x139001 x139002 x139003 x143000 x143001 bt149.1 bt149.2.1 bt149.2.2.1 bt149.2.2.2.1))))) else (some (x143000 == 0 && (x143001 == 0))))
def dialtonelaw14_LifeMail.j1 : Nat → Int → Int → Int → Int → Bool → Int → Int → Int → Int → Int → Int → Int → Int → Int → Int → Option (Bool)
  | 0, _, _, _, _, _, _, _, _, _, _, _, _, _, _, _ => none
  | k + 1, x17, x18, x20, x21, x121, x139000, x139001, x139002, x139003, x143000, x143001, x155000, x155001, x155002, x155003 => if x121 = true then (some false) else (if x17 = 1 then (if x18 ≥ 0 then (if x18 = x139001 then (if x155002 = x143000 then (if x155000 = 1 then (if x17 = 3 then (if x20 = 3 then (if x20 = 1 then (some (x21 == x139001)) else (some true)) else (some false)) else (if x20 = 1 then (some (x21 == x139001)) else (some true))) else (some false)) else (some false)) else (some false)) else (some false)) else (if x18 ≥ 0 then (some false) else (if x17 = 3 then (if x20 = 3 then (if x20 = 1 then (some (x21 == x139001)) else (some true)) else (some false)) else (if x20 = 1 then (some (x21 == x139001)) else (some true)))))
end
def dialtonelaw14_LifeMail.f (k : Nat) (l0 : List (S23)) (a1 : Int) (a2 : Int) (a3 : Int) : Option (Bool) := (dialtonelaw14_sane.f).bind fun t126 => (if t126 = true then ((dialtoneref14_Made.f k l0).bind fun t127 => ((dialtoneref14_Time.f t127 a1).bind fun t130 => ((dialtoneref14_Time.f t127 a2).bind fun t131 => ((dialtoneref14_Time.f t127 a3).bind fun t132 => ((life_At.f t127 t130).bind fun bt133 => ((life_Keep.f t127 t130).bind fun bt139 => (if bt133.2.2.2.2 = 0 then (if bt133.1 = 1 then (dialtonelaw14_LifeMail.j0 k t127 (mx t130 t131) (mx (mx t130 t131) t132) bt139.2.2 ((bt139.2.2 == 0) != true) bt133.1 bt133.2.1 bt133.2.2.1 bt133.2.2.2.1 bt139.1 bt139.2.1) else (if bt139.2.2 = 0 then (dialtonelaw14_LifeMail.j0 k t127 (mx t130 t131) (mx (mx t130 t131) t132) bt139.2.2 (!(bt133.1 == 2)) bt133.1 bt133.2.1 bt133.2.2.1 bt133.2.2.2.1 bt139.1 bt139.2.1) else (dialtonelaw14_LifeMail.j0 k t127 (mx t130 t131) (mx (mx t130 t131) t132) bt139.2.2 (bt133.1 == 2) bt133.1 bt133.2.1 bt133.2.2.1 bt133.2.2.2.1 bt139.1 bt139.2.1))) else (dialtonelaw14_LifeMail.j0 k t127 (mx t130 t131) (mx (mx t130 t131) t132) bt139.2.2 true bt133.1 bt133.2.1 bt133.2.2.1 bt133.2.2.2.1 bt139.1 bt139.2.1)))))))) else (some false))
theorem dialtonelaw14_LifeMail.mono_l : ∀ k, (∀ y0 y1 y2 y3 y4 y5 y6 y7 y8 y9 y10, LeO (dialtonelaw14_LifeMail.j0 k y0 y1 y2 y3 y4 y5 y6 y7 y8 y9 y10) (dialtonelaw14_LifeMail.j0 (k + 1) y0 y1 y2 y3 y4 y5 y6 y7 y8 y9 y10)) ∧ (∀ y0 y1 y2 y3 y4 y5 y6 y7 y8 y9 y10 y11 y12 y13 y14, LeO (dialtonelaw14_LifeMail.j1 k y0 y1 y2 y3 y4 y5 y6 y7 y8 y9 y10 y11 y12 y13 y14) (dialtonelaw14_LifeMail.j1 (k + 1) y0 y1 y2 y3 y4 y5 y6 y7 y8 y9 y10 y11 y12 y13 y14))
  | 0 => ⟨fun _ _ _ _ _ _ _ _ _ _ _ r h => by simp [dialtonelaw14_LifeMail.j0] at h, fun _ _ _ _ _ _ _ _ _ _ _ _ _ _ _ r h => by simp [dialtonelaw14_LifeMail.j1] at h⟩
  | k + 1 => by
    obtain ⟨ih0, ih1⟩ := dialtonelaw14_LifeMail.mono_l k
    refine ⟨?_, ?_⟩
    · intro y0 y1 y2 y3 y4 y5 y6 y7 y8 y9 y10
      unfold dialtonelaw14_LifeMail.j0
      repeat' first
      | (with_reducible exact ih0 _ _ _ _ _ _ _ _ _ _ _)
      | (with_reducible exact ih1 _ _ _ _ _ _ _ _ _ _ _ _ _ _ _)
      | (with_reducible exact dialtoneref14_Made.mono _ _)
      | (with_reducible exact LeO.refl _)
      | (with_reducible exact LeO.none _)
      | (with_reducible refine LeO.ite ?_ ?_)
      | (with_reducible refine LeO.bind ?_ (fun _ => ?_))
      | exact ih0 _ _ _ _ _ _ _ _ _ _ _
      | exact ih1 _ _ _ _ _ _ _ _ _ _ _ _ _ _ _
      | exact dialtoneref14_Made.mono _ _
      | exact LeO.none _
      | refine LeO.ite ?_ ?_
      | refine LeO.bind ?_ (fun _ => ?_)
    · intro y0 y1 y2 y3 y4 y5 y6 y7 y8 y9 y10 y11 y12 y13 y14
      unfold dialtonelaw14_LifeMail.j1
      repeat' first
      | (with_reducible exact ih0 _ _ _ _ _ _ _ _ _ _ _)
      | (with_reducible exact ih1 _ _ _ _ _ _ _ _ _ _ _ _ _ _ _)
      | (with_reducible exact dialtoneref14_Made.mono _ _)
      | (with_reducible exact LeO.refl _)
      | (with_reducible exact LeO.none _)
      | (with_reducible refine LeO.ite ?_ ?_)
      | (with_reducible refine LeO.bind ?_ (fun _ => ?_))
      | exact ih0 _ _ _ _ _ _ _ _ _ _ _
      | exact ih1 _ _ _ _ _ _ _ _ _ _ _ _ _ _ _
      | exact dialtoneref14_Made.mono _ _
      | exact LeO.none _
      | refine LeO.ite ?_ ?_
      | refine LeO.bind ?_ (fun _ => ?_)
theorem dialtonelaw14_LifeMail.mono : ∀ a0 a1 a2 a3 k, LeO (dialtonelaw14_LifeMail.f k a0 a1 a2 a3) (dialtonelaw14_LifeMail.f (k + 1) a0 a1 a2 a3) := by
  intro a0 a1 a2 a3 k
  obtain ⟨ih0, ih1⟩ := dialtonelaw14_LifeMail.mono_l k
  unfold dialtonelaw14_LifeMail.f
  repeat' first
      | (with_reducible exact ih0 _ _ _ _ _ _ _ _ _ _ _)
      | (with_reducible exact ih1 _ _ _ _ _ _ _ _ _ _ _ _ _ _ _)
      | (with_reducible exact dialtoneref14_Made.mono _ _)
      | (with_reducible exact LeO.refl _)
      | (with_reducible exact LeO.none _)
      | (with_reducible refine LeO.ite ?_ ?_)
      | (with_reducible refine LeO.bind ?_ (fun _ => ?_))
      | exact ih0 _ _ _ _ _ _ _ _ _ _ _
      | exact ih1 _ _ _ _ _ _ _ _ _ _ _ _ _ _ _
      | exact dialtoneref14_Made.mono _ _
      | exact LeO.none _
      | refine LeO.ite ?_ ?_
      | refine LeO.bind ?_ (fun _ => ?_)
set_option maxHeartbeats 8000000 in
set_option maxRecDepth 100000 in
theorem dialtonelaw14_LifeMail.calls (k : Nat) (A0 : Option Addr) (c0 : Nat) (l0 : List (S23)) (a1 : Int) (a2 : Int) (a3 : Int) (r : Bool) (w : World) (hr0 : Kd.C k23 w A0 l0.length l0) (hc0 : l0.length ≤ c0) (h : dialtonelaw14_LifeMail.f k l0 a1 a2 a3 = some r) :
    Calls Try.prog 5 #[.slice A0 l0.length c0, .int .i64 a1, .int .i64 a2, .int .i64 a3] w fun e w' => e = .returned (.bool r) ∧ Below w.heap.size w w' := by
  have hu26 := Try.underlying26
  have hu28 := Try.underlying28
  have HR0 := Aside0.mk hr0
  have HC0 := Aside0.mk hc0
  clear hr0 hc0
  have HB := Aside0.mk (Below.refl w.heap.size w)
  have H : ((dialtonelaw14_sane.f).bind fun t126 => (if t126 = true then ((dialtoneref14_Made.f k l0).bind fun t127 => ((dialtoneref14_Time.f t127 a1).bind fun t130 => ((dialtoneref14_Time.f t127 a2).bind fun t131 => ((dialtoneref14_Time.f t127 a3).bind fun t132 => ((life_At.f t127 t130).bind fun bt133 => ((life_Keep.f t127 t130).bind fun bt139 => (if bt133.2.2.2.2 = 0 then (if bt133.1 = 1 then (dialtonelaw14_LifeMail.j0 k t127 (mx t130 t131) (mx (mx t130 t131) t132) bt139.2.2 ((bt139.2.2 == 0) != true) bt133.1 bt133.2.1 bt133.2.2.1 bt133.2.2.2.1 bt139.1 bt139.2.1) else (if bt139.2.2 = 0 then (dialtonelaw14_LifeMail.j0 k t127 (mx t130 t131) (mx (mx t130 t131) t132) bt139.2.2 (!(bt133.1 == 2)) bt133.1 bt133.2.1 bt133.2.2.1 bt133.2.2.2.1 bt139.1 bt139.2.1) else (dialtonelaw14_LifeMail.j0 k t127 (mx t130 t131) (mx (mx t130 t131) t132) bt139.2.2 (bt133.1 == 2) bt133.1 bt133.2.1 bt133.2.2.1 bt133.2.2.2.1 bt139.1 bt139.2.1))) else (dialtonelaw14_LifeMail.j0 k t127 (mx t130 t131) (mx (mx t130 t131) t132) bt139.2.2 true bt133.1 bt133.2.1 bt133.2.2.1 bt133.2.2.2.1 bt139.1 bt139.2.1)))))))) else (some false))) = some r := h
  clear h
  replace H := Option.bind_eq_some_iff.mp H
  obtain ⟨t126, A50, H⟩ := H
  replace H : (if t126 = true then ((dialtoneref14_Made.f k l0).bind fun t127 => ((dialtoneref14_Time.f t127 a1).bind fun t130 => ((dialtoneref14_Time.f t127 a2).bind fun t131 => ((dialtoneref14_Time.f t127 a3).bind fun t132 => ((life_At.f t127 t130).bind fun bt133 => ((life_Keep.f t127 t130).bind fun bt139 => (if bt133.2.2.2.2 = 0 then (if bt133.1 = 1 then (dialtonelaw14_LifeMail.j0 k t127 (mx t130 t131) (mx (mx t130 t131) t132) bt139.2.2 ((bt139.2.2 == 0) != true) bt133.1 bt133.2.1 bt133.2.2.1 bt133.2.2.2.1 bt139.1 bt139.2.1) else (if bt139.2.2 = 0 then (dialtonelaw14_LifeMail.j0 k t127 (mx t130 t131) (mx (mx t130 t131) t132) bt139.2.2 (!(bt133.1 == 2)) bt133.1 bt133.2.1 bt133.2.2.1 bt133.2.2.2.1 bt139.1 bt139.2.1) else (dialtonelaw14_LifeMail.j0 k t127 (mx t130 t131) (mx (mx t130 t131) t132) bt139.2.2 (bt133.1 == 2) bt133.1 bt133.2.1 bt133.2.2.1 bt133.2.2.2.1 bt139.1 bt139.2.1))) else (dialtonelaw14_LifeMail.j0 k t127 (mx t130 t131) (mx (mx t130 t131) t132) bt139.2.2 true bt133.1 bt133.2.1 bt133.2.2.1 bt133.2.2.2.1 bt139.1 bt139.2.1)))))))) else (some false)) = some r := H
  have A5 := Aside0.mk A50
  clear A50
  by_cases c6 : t126 = true
  · subst c6
    have H1 : ((dialtoneref14_Made.f k l0).bind fun t127 => ((dialtoneref14_Time.f t127 a1).bind fun t130 => ((dialtoneref14_Time.f t127 a2).bind fun t131 => ((dialtoneref14_Time.f t127 a3).bind fun t132 => ((life_At.f t127 t130).bind fun bt133 => ((life_Keep.f t127 t130).bind fun bt139 => (if bt133.2.2.2.2 = 0 then (if bt133.1 = 1 then (dialtonelaw14_LifeMail.j0 k t127 (mx t130 t131) (mx (mx t130 t131) t132) bt139.2.2 ((bt139.2.2 == 0) != true) bt133.1 bt133.2.1 bt133.2.2.1 bt133.2.2.2.1 bt139.1 bt139.2.1) else (if bt139.2.2 = 0 then (dialtonelaw14_LifeMail.j0 k t127 (mx t130 t131) (mx (mx t130 t131) t132) bt139.2.2 (!(bt133.1 == 2)) bt133.1 bt133.2.1 bt133.2.2.1 bt133.2.2.2.1 bt139.1 bt139.2.1) else (dialtonelaw14_LifeMail.j0 k t127 (mx t130 t131) (mx (mx t130 t131) t132) bt139.2.2 (bt133.1 == 2) bt133.1 bt133.2.1 bt133.2.2.1 bt133.2.2.2.1 bt139.1 bt139.2.1))) else (dialtonelaw14_LifeMail.j0 k t127 (mx t130 t131) (mx (mx t130 t131) t132) bt139.2.2 true bt133.1 bt133.2.1 bt133.2.2.1 bt133.2.2.2.1 bt139.1 bt139.2.1)))))))) = some r := by rw [if_pos rfl] at H; exact H
    clear H
    have H := H1
    clear H1
    replace H := Option.bind_eq_some_iff.mp H
    obtain ⟨t127, A70, H⟩ := H
    replace H : ((dialtoneref14_Time.f t127 a1).bind fun t130 => ((dialtoneref14_Time.f t127 a2).bind fun t131 => ((dialtoneref14_Time.f t127 a3).bind fun t132 => ((life_At.f t127 t130).bind fun bt133 => ((life_Keep.f t127 t130).bind fun bt139 => (if bt133.2.2.2.2 = 0 then (if bt133.1 = 1 then (dialtonelaw14_LifeMail.j0 k t127 (mx t130 t131) (mx (mx t130 t131) t132) bt139.2.2 ((bt139.2.2 == 0) != true) bt133.1 bt133.2.1 bt133.2.2.1 bt133.2.2.2.1 bt139.1 bt139.2.1) else (if bt139.2.2 = 0 then (dialtonelaw14_LifeMail.j0 k t127 (mx t130 t131) (mx (mx t130 t131) t132) bt139.2.2 (!(bt133.1 == 2)) bt133.1 bt133.2.1 bt133.2.2.1 bt133.2.2.2.1 bt139.1 bt139.2.1) else (dialtonelaw14_LifeMail.j0 k t127 (mx t130 t131) (mx (mx t130 t131) t132) bt139.2.2 (bt133.1 == 2) bt133.1 bt133.2.1 bt133.2.2.1 bt133.2.2.2.1 bt139.1 bt139.2.1))) else (dialtonelaw14_LifeMail.j0 k t127 (mx t130 t131) (mx (mx t130 t131) t132) bt139.2.2 true bt133.1 bt133.2.1 bt133.2.2.1 bt133.2.2.2.1 bt139.1 bt139.2.1))))))) = some r := H
    have A7 := Aside0.mk A70
    clear A70
    replace H := Option.bind_eq_some_iff.mp H
    obtain ⟨t130, A80, H⟩ := H
    replace H : ((dialtoneref14_Time.f t127 a2).bind fun t131 => ((dialtoneref14_Time.f t127 a3).bind fun t132 => ((life_At.f t127 t130).bind fun bt133 => ((life_Keep.f t127 t130).bind fun bt139 => (if bt133.2.2.2.2 = 0 then (if bt133.1 = 1 then (dialtonelaw14_LifeMail.j0 k t127 (mx t130 t131) (mx (mx t130 t131) t132) bt139.2.2 ((bt139.2.2 == 0) != true) bt133.1 bt133.2.1 bt133.2.2.1 bt133.2.2.2.1 bt139.1 bt139.2.1) else (if bt139.2.2 = 0 then (dialtonelaw14_LifeMail.j0 k t127 (mx t130 t131) (mx (mx t130 t131) t132) bt139.2.2 (!(bt133.1 == 2)) bt133.1 bt133.2.1 bt133.2.2.1 bt133.2.2.2.1 bt139.1 bt139.2.1) else (dialtonelaw14_LifeMail.j0 k t127 (mx t130 t131) (mx (mx t130 t131) t132) bt139.2.2 (bt133.1 == 2) bt133.1 bt133.2.1 bt133.2.2.1 bt133.2.2.2.1 bt139.1 bt139.2.1))) else (dialtonelaw14_LifeMail.j0 k t127 (mx t130 t131) (mx (mx t130 t131) t132) bt139.2.2 true bt133.1 bt133.2.1 bt133.2.2.1 bt133.2.2.2.1 bt139.1 bt139.2.1)))))) = some r := H
    have A8 := Aside0.mk A80
    clear A80
    replace H := Option.bind_eq_some_iff.mp H
    obtain ⟨t131, A90, H⟩ := H
    replace H : ((dialtoneref14_Time.f t127 a3).bind fun t132 => ((life_At.f t127 t130).bind fun bt133 => ((life_Keep.f t127 t130).bind fun bt139 => (if bt133.2.2.2.2 = 0 then (if bt133.1 = 1 then (dialtonelaw14_LifeMail.j0 k t127 (mx t130 t131) (mx (mx t130 t131) t132) bt139.2.2 ((bt139.2.2 == 0) != true) bt133.1 bt133.2.1 bt133.2.2.1 bt133.2.2.2.1 bt139.1 bt139.2.1) else (if bt139.2.2 = 0 then (dialtonelaw14_LifeMail.j0 k t127 (mx t130 t131) (mx (mx t130 t131) t132) bt139.2.2 (!(bt133.1 == 2)) bt133.1 bt133.2.1 bt133.2.2.1 bt133.2.2.2.1 bt139.1 bt139.2.1) else (dialtonelaw14_LifeMail.j0 k t127 (mx t130 t131) (mx (mx t130 t131) t132) bt139.2.2 (bt133.1 == 2) bt133.1 bt133.2.1 bt133.2.2.1 bt133.2.2.2.1 bt139.1 bt139.2.1))) else (dialtonelaw14_LifeMail.j0 k t127 (mx t130 t131) (mx (mx t130 t131) t132) bt139.2.2 true bt133.1 bt133.2.1 bt133.2.2.1 bt133.2.2.2.1 bt139.1 bt139.2.1))))) = some r := H
    have A9 := Aside0.mk A90
    clear A90
    obtain ⟨ji10, hji10⟩ : ∃ j_ : Int, (mx t130 t131) = j_ := ⟨_, rfl⟩
    replace H : ((dialtoneref14_Time.f t127 a3).bind fun t132 => ((life_At.f t127 t130).bind fun bt133 => ((life_Keep.f t127 t130).bind fun bt139 => (if bt133.2.2.2.2 = 0 then (if bt133.1 = 1 then (dialtonelaw14_LifeMail.j0 k t127 ji10 (mx (ji10) t132) bt139.2.2 ((bt139.2.2 == 0) != true) bt133.1 bt133.2.1 bt133.2.2.1 bt133.2.2.2.1 bt139.1 bt139.2.1) else (if bt139.2.2 = 0 then (dialtonelaw14_LifeMail.j0 k t127 ji10 (mx (ji10) t132) bt139.2.2 (!(bt133.1 == 2)) bt133.1 bt133.2.1 bt133.2.2.1 bt133.2.2.2.1 bt139.1 bt139.2.1) else (dialtonelaw14_LifeMail.j0 k t127 ji10 (mx (ji10) t132) bt139.2.2 (bt133.1 == 2) bt133.1 bt133.2.1 bt133.2.2.1 bt133.2.2.2.1 bt139.1 bt139.2.1))) else (dialtonelaw14_LifeMail.j0 k t127 ji10 (mx (ji10) t132) bt139.2.2 true bt133.1 bt133.2.1 bt133.2.2.1 bt133.2.2.2.1 bt139.1 bt139.2.1))))) = some r := by first | (rw [hji10] at H; exact H) | (simp only [hji10] at H ⊢; exact H)
    (try rw [hji10] at A5)
    (try rw [hji10] at A7)
    (try rw [hji10] at A8)
    (try rw [hji10] at A9)
    have hji10_ : (if t130 < t131 then t131 else t130) = ji10 := hji10
    replace H := Option.bind_eq_some_iff.mp H
    obtain ⟨t132, A110, H⟩ := H
    replace H : ((life_At.f t127 t130).bind fun bt133 => ((life_Keep.f t127 t130).bind fun bt139 => (if bt133.2.2.2.2 = 0 then (if bt133.1 = 1 then (dialtonelaw14_LifeMail.j0 k t127 ji10 (mx (ji10) t132) bt139.2.2 ((bt139.2.2 == 0) != true) bt133.1 bt133.2.1 bt133.2.2.1 bt133.2.2.2.1 bt139.1 bt139.2.1) else (if bt139.2.2 = 0 then (dialtonelaw14_LifeMail.j0 k t127 ji10 (mx (ji10) t132) bt139.2.2 (!(bt133.1 == 2)) bt133.1 bt133.2.1 bt133.2.2.1 bt133.2.2.2.1 bt139.1 bt139.2.1) else (dialtonelaw14_LifeMail.j0 k t127 ji10 (mx (ji10) t132) bt139.2.2 (bt133.1 == 2) bt133.1 bt133.2.1 bt133.2.2.1 bt133.2.2.2.1 bt139.1 bt139.2.1))) else (dialtonelaw14_LifeMail.j0 k t127 ji10 (mx (ji10) t132) bt139.2.2 true bt133.1 bt133.2.1 bt133.2.2.1 bt133.2.2.2.1 bt139.1 bt139.2.1)))) = some r := H
    have A11 := Aside0.mk A110
    clear A110
    obtain ⟨ji12, hji12⟩ : ∃ j_ : Int, (mx (ji10) t132) = j_ := ⟨_, rfl⟩
    replace H : ((life_At.f t127 t130).bind fun bt133 => ((life_Keep.f t127 t130).bind fun bt139 => (if bt133.2.2.2.2 = 0 then (if bt133.1 = 1 then (dialtonelaw14_LifeMail.j0 k t127 ji10 ji12 bt139.2.2 ((bt139.2.2 == 0) != true) bt133.1 bt133.2.1 bt133.2.2.1 bt133.2.2.2.1 bt139.1 bt139.2.1) else (if bt139.2.2 = 0 then (dialtonelaw14_LifeMail.j0 k t127 ji10 ji12 bt139.2.2 (!(bt133.1 == 2)) bt133.1 bt133.2.1 bt133.2.2.1 bt133.2.2.2.1 bt139.1 bt139.2.1) else (dialtonelaw14_LifeMail.j0 k t127 ji10 ji12 bt139.2.2 (bt133.1 == 2) bt133.1 bt133.2.1 bt133.2.2.1 bt133.2.2.2.1 bt139.1 bt139.2.1))) else (dialtonelaw14_LifeMail.j0 k t127 ji10 ji12 bt139.2.2 true bt133.1 bt133.2.1 bt133.2.2.1 bt133.2.2.2.1 bt139.1 bt139.2.1)))) = some r := by first | (rw [hji12] at H; exact H) | (simp only [hji12] at H ⊢; exact H)
    (try rw [hji12] at A5)
    (try rw [hji12] at A7)
    (try rw [hji12] at A8)
    (try rw [hji12] at A9)
    (try rw [hji12] at A11)
    have hji12_ : (if (ji10) < t132 then t132 else (ji10)) = ji12 := hji12
    replace H := Option.bind_eq_some_iff.mp H
    obtain ⟨⟨t133, t134, t135, t136, t137⟩, A130, H⟩ := H
    replace H : ((life_Keep.f t127 t130).bind fun bt139 => (if t137 = 0 then (if t133 = 1 then (dialtonelaw14_LifeMail.j0 k t127 ji10 ji12 bt139.2.2 ((bt139.2.2 == 0) != true) t133 t134 t135 t136 bt139.1 bt139.2.1) else (if bt139.2.2 = 0 then (dialtonelaw14_LifeMail.j0 k t127 ji10 ji12 bt139.2.2 (!(t133 == 2)) t133 t134 t135 t136 bt139.1 bt139.2.1) else (dialtonelaw14_LifeMail.j0 k t127 ji10 ji12 bt139.2.2 (t133 == 2) t133 t134 t135 t136 bt139.1 bt139.2.1))) else (dialtonelaw14_LifeMail.j0 k t127 ji10 ji12 bt139.2.2 true t133 t134 t135 t136 bt139.1 bt139.2.1))) = some r := H
    have A13 := Aside0.mk A130
    clear A130
    replace H := Option.bind_eq_some_iff.mp H
    obtain ⟨⟨t139, t140, t141⟩, A140, H⟩ := H
    replace H : (if t137 = 0 then (if t133 = 1 then (dialtonelaw14_LifeMail.j0 k t127 ji10 ji12 t141 ((t141 == 0) != true) t133 t134 t135 t136 t139 t140) else (if t141 = 0 then (dialtonelaw14_LifeMail.j0 k t127 ji10 ji12 t141 (!(t133 == 2)) t133 t134 t135 t136 t139 t140) else (dialtonelaw14_LifeMail.j0 k t127 ji10 ji12 t141 (t133 == 2) t133 t134 t135 t136 t139 t140))) else (dialtonelaw14_LifeMail.j0 k t127 ji10 ji12 t141 true t133 t134 t135 t136 t139 t140)) = some r := H
    have A14 := Aside0.mk A140
    clear A140
    have HC15 := Aside0.mk H
    clear H
    go_enter Try.func5, Try.ntmps5
    go_upto_region 9 with (first | ((with_reducible refine gate_callee (f := 13) rfl ?_); refine goesL_ (some 25) rfl rfl Try.func13 (by kernel_rfl) rfl #[] rfl (by (try simp only [List.map_toArray, List.map_cons, List.map_nil]); first | done | rfl | (simp only [List.length_drop, List.length_take]; rfl)) ?_; (with_reducible refine (dialtonelaw14_sane.calls  true _ A5.out).mono ?_); rintro e w16 ⟨rfl, hb⟩; refine ⟨_, rfl, ?_⟩; have n0_ := Aside0.mk (below_step (by repeat (first | (with_reducible first | exact HB.out | apply below_alloc | apply pw_below_drewN | apply below_drew1) | exact HB.out)) hb); clear HB; have HB := n0_; clear n0_; (try clear hb); (try clear hb2); (try clear hk); (try clear hi)) | ((with_reducible refine gate_callee (f := 14) rfl ?_); refine goesL_ (some 28) rfl rfl Try.func14 (by kernel_rfl) rfl #[.slice A0 l0.length c0] rfl (by (try simp only [List.map_toArray, List.map_cons, List.map_nil]); first | done | rfl | (simp only [List.length_drop, List.length_take]; rfl)) ?_; (with_reducible refine (dialtoneref14_Made.calls k _ _ l0 t127 _ ?side1 ?side2 A7.out).mono ?_); (case side1 => repeat (first | exact (Kd.C_below HR0.out HB.out) | (with_reducible refine Kd.C_alloc ?_ _) | (with_reducible refine Kd.C_drewN ?_ _) | (with_reducible refine Kd.C_drew ?_))); (case side2 => exact HC0.out); rintro e w17 ⟨v128, rfl, ho0, hb⟩; refine ⟨_, rfl, ?_⟩; have n0_ := Aside0.mk (Kd.R_lower ho0 (below_size (by repeat (first | (with_reducible first | exact HB.out | apply below_alloc | apply pw_below_drewN | apply below_drew1) | exact HB.out)))); have n1_ := Aside0.mk (below_step (by repeat (first | (with_reducible first | exact HB.out | apply below_alloc | apply pw_below_drewN | apply below_drew1) | exact HB.out)) hb); clear HB; have HO129 := n0_; have HB := n1_; clear n0_ n1_; (try clear hb); (try clear hb2); (try clear hk); (try clear hi); (try clear ho0); obtain ⟨Ao18, co18, eo18⟩ := Kd.R_slice HO129.out; subst eo18) | ((with_reducible refine gate_callee (f := 24) rfl ?_); refine goesL_ (some 31) rfl rfl Try.func24 (by kernel_rfl) rfl #[.slice Ao18 t127.length co18, .int .i64 a1] rfl (by (try simp only [List.map_toArray, List.map_cons, List.map_nil]); first | done | rfl | (simp only [List.length_drop, List.length_take]; rfl)) ?_; (with_reducible refine (dialtoneref14_Time.calls _ _ t127 a1 t130 _ ?side1 ?side2 A8.out).mono ?_); (case side1 => repeat (first | exact (Kd.R_reads' HO129.out).2.2 | (with_reducible refine Kd.C_alloc ?_ _) | (with_reducible refine Kd.C_drewN ?_ _) | (with_reducible refine Kd.C_drew ?_))); (case side2 => exact (Kd.R_reads' HO129.out).2.1); rintro e w19 ⟨rfl, hb⟩; refine ⟨_, rfl, ?_⟩; have n0_ := Aside0.mk (Kd.R_below (by (with_reducible repeat (first | apply Kd.R_alloc | apply Kd.R_drewN | apply Kd.R_drew)); exact HO129.out) hb); have n1_ := Aside0.mk (below_step (by repeat (first | (with_reducible first | exact HB.out | apply below_alloc | apply pw_below_drewN | apply below_drew1) | exact HB.out)) hb); clear HO129; clear HB; have HO129 := n0_; have HB := n1_; clear n0_ n1_; (try clear hb); (try clear hb2); (try clear hk); (try clear hi)) | ((with_reducible refine gate_callee (f := 24) rfl ?_); refine goesL_ (some 35) rfl rfl Try.func24 (by kernel_rfl) rfl #[.slice Ao18 t127.length co18, .int .i64 a2] rfl (by (try simp only [List.map_toArray, List.map_cons, List.map_nil]); first | done | rfl | (simp only [List.length_drop, List.length_take]; rfl)) ?_; (with_reducible refine (dialtoneref14_Time.calls _ _ t127 a2 t131 _ ?side1 ?side2 A9.out).mono ?_); (case side1 => repeat (first | exact (Kd.R_reads' HO129.out).2.2 | (with_reducible refine Kd.C_alloc ?_ _) | (with_reducible refine Kd.C_drewN ?_ _) | (with_reducible refine Kd.C_drew ?_))); (case side2 => exact (Kd.R_reads' HO129.out).2.1); rintro e w20 ⟨rfl, hb⟩; refine ⟨_, rfl, ?_⟩; have n0_ := Aside0.mk (Kd.R_below (by (with_reducible repeat (first | apply Kd.R_alloc | apply Kd.R_drewN | apply Kd.R_drew)); exact HO129.out) hb); have n1_ := Aside0.mk (below_step (by repeat (first | (with_reducible first | exact HB.out | apply below_alloc | apply pw_below_drewN | apply below_drew1) | exact HB.out)) hb); clear HO129; clear HB; have HO129 := n0_; have HB := n1_; clear n0_ n1_; (try clear hb); (try clear hb2); (try clear hk); (try clear hi)) | ((with_reducible refine gate_callee (f := 24) rfl ?_); refine goesL_ (some 40) rfl rfl Try.func24 (by kernel_rfl) rfl #[.slice Ao18 t127.length co18, .int .i64 a3] rfl (by (try simp only [List.map_toArray, List.map_cons, List.map_nil]); first | done | rfl | (simp only [List.length_drop, List.length_take]; rfl)) ?_; (with_reducible refine (dialtoneref14_Time.calls _ _ t127 a3 t132 _ ?side1 ?side2 A11.out).mono ?_); (case side1 => repeat (first | exact (Kd.R_reads' HO129.out).2.2 | (with_reducible refine Kd.C_alloc ?_ _) | (with_reducible refine Kd.C_drewN ?_ _) | (with_reducible refine Kd.C_drew ?_))); (case side2 => exact (Kd.R_reads' HO129.out).2.1); rintro e w21 ⟨rfl, hb⟩; refine ⟨_, rfl, ?_⟩; have n0_ := Aside0.mk (Kd.R_below (by (with_reducible repeat (first | apply Kd.R_alloc | apply Kd.R_drewN | apply Kd.R_drew)); exact HO129.out) hb); have n1_ := Aside0.mk (below_step (by repeat (first | (with_reducible first | exact HB.out | apply below_alloc | apply pw_below_drewN | apply below_drew1) | exact HB.out)) hb); clear HO129; clear HB; have HO129 := n0_; have HB := n1_; clear n0_ n1_; (try clear hb); (try clear hb2); (try clear hk); (try clear hi)) | ((with_reducible refine gate_callee (f := 25) rfl ?_); refine goesL_ (some 45) rfl rfl Try.func25 (by kernel_rfl) rfl #[.slice Ao18 t127.length co18, .int .i64 t130] rfl (by (try simp only [List.map_toArray, List.map_cons, List.map_nil]); first | done | rfl | (simp only [List.length_drop, List.length_take]; rfl)) ?_; (with_reducible refine (life_At.calls _ _ t127 t130 t133 t134 t135 t136 t137 _ ?side1 ?side2 A13.out).mono ?_); (case side1 => repeat (first | exact (Kd.R_reads' HO129.out).2.2 | (with_reducible refine Kd.C_alloc ?_ _) | (with_reducible refine Kd.C_drewN ?_ _) | (with_reducible refine Kd.C_drew ?_))); (case side2 => exact (Kd.R_reads' HO129.out).2.1); rintro e w22 ⟨rfl, hb⟩; refine ⟨_, rfl, ?_⟩; have n0_ := Aside0.mk (Kd.R_below (by (with_reducible repeat (first | apply Kd.R_alloc | apply Kd.R_drewN | apply Kd.R_drew)); exact HO129.out) hb); have n1_ := Aside0.mk (below_step (by repeat (first | (with_reducible first | exact HB.out | apply below_alloc | apply pw_below_drewN | apply below_drew1) | exact HB.out)) hb); clear HO129; clear HB; have HO129 := n0_; have HB := n1_; clear n0_ n1_; (try clear hb); (try clear hb2); (try clear hk); (try clear hi)) | ((with_reducible refine gate_dst (N := 13) rfl ?_); refine box_event ?hg (N := 13) ?hd (cs := #[.int .i64 0, .int .i64 0, .int .i64 0, .int .i64 0]) (t := 26) ?hr ?_; (case hd => rfl); (case hg => rfl); (case hr => first | (go_simp; done) | (go_simp; rfl)); intro gb138 hg w23 hbox hb; have n0_ := Aside0.mk (Kd.R_below (by (with_reducible repeat (first | apply Kd.R_alloc | apply Kd.R_drewN | apply Kd.R_drew)); exact HO129.out) hb); have n1_ := Aside0.mk (below_step (by repeat (first | (with_reducible first | exact HB.out | apply below_alloc | apply pw_below_drewN | apply below_drew1) | exact HB.out)) hb); have n2_ := Aside0.mk (hbox); have n3_ := Aside0.mk ((by rw [hg]; exact (below_size (by repeat (first | (with_reducible first | exact HB.out | apply below_alloc | apply pw_below_drewN | apply below_drew1) | exact HB.out))) : w.heap.size ≤ gb138)); have n4_ := Aside0.mk ((by rw [hg]; exact (below_size (by repeat (first | (with_reducible first | exact HB.out | apply below_alloc | apply pw_below_drewN | apply below_drew1) | exact HB.out))) : w.heap.size ≤ gb138)); clear HO129; clear HB; have HO129 := n0_; have HB := n1_; have BK138 := n2_; have GW138 := n3_; have GE138 := n4_; clear n0_ n1_ n2_ n3_ n4_; clear hb hbox hg; have hcz24_0 : w23.cell? ⟨gb138, 0, none⟩ = some (.int .i64 0) := (blk_cell BK138.out 0).trans rfl; have hcz24_1 : w23.cell? ⟨gb138, 1, none⟩ = some (.int .i64 0) := (blk_cell BK138.out 1).trans rfl; have hcz24_2 : w23.cell? ⟨gb138, 2, none⟩ = some (.int .i64 0) := (blk_cell BK138.out 2).trans rfl; have hcz24_3 : w23.cell? ⟨gb138, 3, none⟩ = some (.int .i64 0) := (blk_cell BK138.out 3).trans rfl; have hfz24_0 := blk_frozen BK138.out 0; have hfz24_1 := blk_frozen BK138.out 1; have hfz24_2 := blk_frozen BK138.out 2; have hfz24_3 := blk_frozen BK138.out 3) | ((with_reducible refine gate_callee (f := 27) rfl ?_); refine goesL_ (some 51) rfl rfl Try.func27 (by kernel_rfl) rfl #[.slice Ao18 t127.length co18, .int .i64 t130] rfl (by (try simp only [List.map_toArray, List.map_cons, List.map_nil]); first | done | rfl | (simp only [List.length_drop, List.length_take]; rfl)) ?_; (with_reducible refine (life_Keep.calls _ _ t127 t130 t139 t140 t141 _ ?side1 ?side2 A14.out).mono ?_); (case side1 => refine (Kd.R_reads' (e := 54) (base := w.heap.size) (ok := fun k_ => True) (n := t127.length) (c := co18) ?_).2.2; exact (by (with_reducible repeat (first | apply Kd.R_alloc | apply Kd.R_drewN | apply Kd.R_drew)); exact (Kd.R_mono (Kd.R_far (p := ⟨gb138, 3, none⟩) (Kd.R_far (p := ⟨gb138, 2, none⟩) (Kd.R_far (p := ⟨gb138, 1, none⟩) (Kd.R_far (p := ⟨gb138, 0, none⟩) (Kd.R_types HO129.out BK138.out (by decide)) (fun _ hk => hk.2) (.int .i64 t133)) (fun _ hk => hk.2) (.int .i64 t134)) (fun _ hk => hk.2) (.int .i64 t135)) (fun _ hk => hk.2) (.int .i64 t136)) (fun _ h_ => h_.1)))); (case side2 => exact (Kd.R_reads' HO129.out).2.1); rintro e w25 ⟨rfl, hb⟩; refine ⟨_, rfl, ?_⟩; have n0_ := Aside0.mk (Kd.R_below (by (with_reducible repeat (first | apply Kd.R_alloc | apply Kd.R_drewN | apply Kd.R_drew)); exact (Kd.R_mono (Kd.R_far (p := ⟨gb138, 3, none⟩) (Kd.R_far (p := ⟨gb138, 2, none⟩) (Kd.R_far (p := ⟨gb138, 1, none⟩) (Kd.R_far (p := ⟨gb138, 0, none⟩) (Kd.R_types HO129.out BK138.out (by decide)) (fun _ hk => hk.2) (.int .i64 t133)) (fun _ hk => hk.2) (.int .i64 t134)) (fun _ hk => hk.2) (.int .i64 t135)) (fun _ hk => hk.2) (.int .i64 t136)) (fun _ h_ => h_.1))) hb); have n1_ := Aside0.mk (blk_below (g := gb138) (o := .cells #[.int .i64 t133, .int .i64 t134, .int .i64 t135, .int .i64 t136] 26 (0, 0)) (by (with_reducible repeat (first | refine blk_drewN ?_ _ | refine blk_drew ?_ | refine blk_alloc ?_ _)); refine blk_put (cs := #[.int .i64 t133, .int .i64 t134, .int .i64 t135, .int .i64 0]) ?_ 3 _ rfl; (with_reducible repeat (first | refine blk_drewN ?_ _ | refine blk_drew ?_ | refine blk_alloc ?_ _)); refine blk_put (cs := #[.int .i64 t133, .int .i64 t134, .int .i64 0, .int .i64 0]) ?_ 2 _ rfl; (with_reducible repeat (first | refine blk_drewN ?_ _ | refine blk_drew ?_ | refine blk_alloc ?_ _)); refine blk_put (cs := #[.int .i64 t133, .int .i64 0, .int .i64 0, .int .i64 0]) ?_ 1 _ rfl; (with_reducible repeat (first | refine blk_drewN ?_ _ | refine blk_drew ?_ | refine blk_alloc ?_ _)); refine blk_put (cs := #[.int .i64 0, .int .i64 0, .int .i64 0, .int .i64 0]) ?_ 0 _ rfl; (with_reducible repeat (first | refine blk_drewN ?_ _ | refine blk_drew ?_ | refine blk_alloc ?_ _)); exact BK138.out) hb); have n2_ := Aside0.mk (below_step (by repeat (first | (with_reducible first | exact HB.out | apply below_alloc | apply pw_below_drewN | apply below_drew1 | refine below_set ?_ GE138.out) | exact HB.out)) hb); clear HO129; clear BK138; clear HB; have HO129 := n0_; have BK138 := n1_; have HB := n2_; clear n0_ n1_ n2_; (try clear hb); (try clear hb2); (try clear hk); (try clear hi)) | ((with_reducible refine gate_dst (N := 15) rfl ?_); refine box_event ?hg (N := 15) ?hd (cs := #[.int .i64 0, .int .i64 0]) (t := 28) ?hr ?_; (case hd => rfl); (case hg => rfl); (case hr => first | (go_simp; done) | (go_simp; rfl)); intro gb142 hg w26 hbox hb; have n0_ := Aside0.mk (Kd.R_below (by (with_reducible repeat (first | apply Kd.R_alloc | apply Kd.R_drewN | apply Kd.R_drew)); exact HO129.out) hb); have n1_ := Aside0.mk (blk_below (g := gb138) (o := .cells #[.int .i64 t133, .int .i64 t134, .int .i64 t135, .int .i64 t136] 26 (0, 0)) (by (with_reducible repeat (first | refine blk_drewN ?_ _ | refine blk_drew ?_ | refine blk_alloc ?_ _)); exact BK138.out) hb); have n2_ := Aside0.mk (below_step (by repeat (first | (with_reducible first | exact HB.out | apply below_alloc | apply pw_below_drewN | apply below_drew1 | refine below_set ?_ GE138.out) | exact HB.out)) hb); have n3_ := Aside0.mk (hbox); have n4_ := Aside0.mk ((by rw [hg]; exact (below_size (by repeat (first | (with_reducible first | exact HB.out | apply below_alloc | apply pw_below_drewN | apply below_drew1 | refine below_set ?_ GE138.out) | exact HB.out))) : w.heap.size ≤ gb142)); have n5_ := Aside0.mk ((by rw [hg]; exact (below_size (by repeat (first | (with_reducible first | exact HB.out | apply below_alloc | apply pw_below_drewN | apply below_drew1 | refine below_set ?_ GE138.out) | exact HB.out))) : w.heap.size ≤ gb142)); have n6_ := Aside0.mk ((by rw [hg]; exact Nat.ne_of_lt (blk_lt (g := gb138) (o := .cells #[.int .i64 t133, .int .i64 t134, .int .i64 t135, .int .i64 t136] 26 (0, 0)) (by (with_reducible repeat (first | refine blk_drewN ?_ _ | refine blk_drew ?_ | refine blk_alloc ?_ _)); exact BK138.out)) : gb138 ≠ gb142)); have n7_ := Aside0.mk ((by rw [hg]; exact Nat.ne_of_gt (blk_lt (g := gb138) (o := .cells #[.int .i64 t133, .int .i64 t134, .int .i64 t135, .int .i64 t136] 26 (0, 0)) (by (with_reducible repeat (first | refine blk_drewN ?_ _ | refine blk_drew ?_ | refine blk_alloc ?_ _)); exact BK138.out)) : gb142 ≠ gb138)); clear HO129; clear BK138; clear HB; have HO129 := n0_; have BK138 := n1_; have HB := n2_; have BK142 := n3_; have GW142 := n4_; have GE142 := n5_; have NB138_142 := n6_; have NB142_138 := n7_; clear n0_ n1_ n2_ n3_ n4_ n5_ n6_ n7_; clear hb hbox hg; have hnb27 := NB142_138.out; have hnc27 := NB138_142.out; have hcz28_0 : w26.cell? ⟨gb142, 0, none⟩ = some (.int .i64 0) := (blk_cell BK142.out 0).trans rfl; have hcz28_1 : w26.cell? ⟨gb142, 1, none⟩ = some (.int .i64 0) := (blk_cell BK142.out 1).trans rfl; have hfz28_0 := blk_frozen BK142.out 0; have hfz28_1 := blk_frozen BK142.out 1))
    (try simp only [Act.put, List.setIfInBounds_toArray, List.set_cons_zero, List.set_cons_succ])
    go_cut [68] (fun v68 wc => ∃ (kq : Nat) (x68_14 : Bool), v68 = .bool x68_14 ∧ Aside0 (dialtonelaw14_LifeMail.j0 kq t127 ji10 ji12 t141 x68_14 t133 t134 t135 t136 t139 t140 = some r) ∧ Aside0 (kq ≤ k) ∧ Aside0 (Kd.R k54 54 wc w.heap.size (fun _ => True) (.slice Ao18 t127.length co18) t127) ∧ Aside0 (wc.heap[gb138]? = some (.cells #[.int .i64 t133, .int .i64 t134, .int .i64 t135, .int .i64 t136] 26 (0, 0))) ∧ Aside0 (wc.heap[gb142]? = some (.cells #[.int .i64 t139, .int .i64 t140] 28 (0, 0))) ∧ Aside0 (Below w.heap.size w wc))
    case first =>
      have H := HC15.out
      clear HC15
      by_cases c29 : t137 = 0
      · rw [if_pos c29] at H
        have c29b0 : (t137 == 0) = true := beq_iff_eq.mpr c29
        have c29b1 : (t137 != 0) = false := bne_eq_false_iff_eq.mpr c29
        clear c29
        (first | rw [c29b0] | (simp only [i64_w, i32_w]; rw [c29b0]) | rw [c29b1] | skip)
        by_cases c30 : t133 = 1
        · rw [if_pos c30] at H
          have c30b0 : (t133 == 1) = true := beq_iff_eq.mpr c30
          have c30b1 : (t133 != 1) = false := bne_eq_false_iff_eq.mpr c30
          clear c30
          have H' := Aside0.mk H
          clear H
          have hnb31 := NB138_142.out
          have hnc31 := NB142_138.out
          have hcz32_0 : w26.cell? ⟨gb138, 0, none⟩ = some (.int .i64 t133) := (blk_cell BK138.out 0).trans rfl
          have hcz32_1 : w26.cell? ⟨gb138, 1, none⟩ = some (.int .i64 t134) := (blk_cell BK138.out 1).trans rfl
          have hcz32_2 : w26.cell? ⟨gb138, 2, none⟩ = some (.int .i64 t135) := (blk_cell BK138.out 2).trans rfl
          have hcz32_3 : w26.cell? ⟨gb138, 3, none⟩ = some (.int .i64 t136) := (blk_cell BK138.out 3).trans rfl
          have hfz32_0 := blk_frozen BK138.out 0
          have hfz32_1 := blk_frozen BK138.out 1
          have hfz32_2 := blk_frozen BK138.out 2
          have hfz32_3 := blk_frozen BK138.out 3
          go_wp2
          go_meet
          case rel => exact ⟨_, (((t141 == 0) != true)), (by first | rfl | (simp; done) | (simp [*]; done)), H', ⟨by first | omega | exact Nat.le_refl _⟩, ⟨by (with_reducible repeat (first | apply Kd.R_alloc | apply Kd.R_drewN | apply Kd.R_drew)); exact Kd.R_mono (Kd.R_far (p := ⟨gb142, 1, none⟩) (Kd.R_far (p := ⟨gb142, 0, none⟩) (Kd.R_types HO129.out BK142.out (by decide)) (fun _ hk => hk.2) (.int .i64 t139)) (fun _ hk => hk.2) (.int .i64 t140)) (fun _ hk => trivial)⟩, ⟨by (with_reducible repeat (first | refine blk_drewN ?_ _ | refine blk_drew ?_ | refine blk_alloc ?_ _)); refine blk_far ?_ NB138_142.out _; (with_reducible repeat (first | refine blk_drewN ?_ _ | refine blk_drew ?_ | refine blk_alloc ?_ _)); refine blk_far ?_ NB138_142.out _; (with_reducible repeat (first | refine blk_drewN ?_ _ | refine blk_drew ?_ | refine blk_alloc ?_ _)); exact BK138.out⟩, ⟨by (with_reducible repeat (first | refine blk_drewN ?_ _ | refine blk_drew ?_ | refine blk_alloc ?_ _)); refine blk_put (cs := #[.int .i64 t139, .int .i64 0]) ?_ 1 _ rfl; (with_reducible repeat (first | refine blk_drewN ?_ _ | refine blk_drew ?_ | refine blk_alloc ?_ _)); refine blk_put (cs := #[.int .i64 0, .int .i64 0]) ?_ 0 _ rfl; (with_reducible repeat (first | refine blk_drewN ?_ _ | refine blk_drew ?_ | refine blk_alloc ?_ _)); exact BK142.out⟩, ⟨by repeat (first | (with_reducible first | exact HB.out | apply below_alloc | apply pw_below_drewN | apply below_drew1 | refine below_set ?_ GE138.out | refine below_set ?_ GE142.out) | exact HB.out)⟩⟩
        · rw [if_neg c30] at H
          have c30b0 : (t133 == 1) = false := beq_eq_false_iff_ne.mpr c30
          have c30b1 : (t133 != 1) = true := bne_iff_ne.mpr c30
          by_cases c33 : t141 = 0
          · rw [if_pos c33] at H
            have c33b0 : (t141 == 0) = true := beq_iff_eq.mpr c33
            have c33b1 : (t141 != 0) = false := bne_eq_false_iff_eq.mpr c33
            clear c33
            have H' := Aside0.mk H
            clear H
            have hnb34 := NB138_142.out
            have hnc34 := NB142_138.out
            have hcz35_0 : w26.cell? ⟨gb138, 0, none⟩ = some (.int .i64 t133) := (blk_cell BK138.out 0).trans rfl
            have hcz35_1 : w26.cell? ⟨gb138, 1, none⟩ = some (.int .i64 t134) := (blk_cell BK138.out 1).trans rfl
            have hcz35_2 : w26.cell? ⟨gb138, 2, none⟩ = some (.int .i64 t135) := (blk_cell BK138.out 2).trans rfl
            have hcz35_3 : w26.cell? ⟨gb138, 3, none⟩ = some (.int .i64 t136) := (blk_cell BK138.out 3).trans rfl
            have hfz35_0 := blk_frozen BK138.out 0
            have hfz35_1 := blk_frozen BK138.out 1
            have hfz35_2 := blk_frozen BK138.out 2
            have hfz35_3 := blk_frozen BK138.out 3
            go_wp2
            go_meet
            case rel => exact ⟨_, (!(t133 == 2)), (by first | rfl | (simp; done) | (simp [*]; done)), H', ⟨by first | omega | exact Nat.le_refl _⟩, ⟨by (with_reducible repeat (first | apply Kd.R_alloc | apply Kd.R_drewN | apply Kd.R_drew)); exact Kd.R_mono (Kd.R_far (p := ⟨gb142, 1, none⟩) (Kd.R_far (p := ⟨gb142, 0, none⟩) (Kd.R_types HO129.out BK142.out (by decide)) (fun _ hk => hk.2) (.int .i64 t139)) (fun _ hk => hk.2) (.int .i64 t140)) (fun _ hk => trivial)⟩, ⟨by (with_reducible repeat (first | refine blk_drewN ?_ _ | refine blk_drew ?_ | refine blk_alloc ?_ _)); refine blk_far ?_ NB138_142.out _; (with_reducible repeat (first | refine blk_drewN ?_ _ | refine blk_drew ?_ | refine blk_alloc ?_ _)); refine blk_far ?_ NB138_142.out _; (with_reducible repeat (first | refine blk_drewN ?_ _ | refine blk_drew ?_ | refine blk_alloc ?_ _)); exact BK138.out⟩, ⟨by (with_reducible repeat (first | refine blk_drewN ?_ _ | refine blk_drew ?_ | refine blk_alloc ?_ _)); refine blk_put (cs := #[.int .i64 t139, .int .i64 0]) ?_ 1 _ rfl; (with_reducible repeat (first | refine blk_drewN ?_ _ | refine blk_drew ?_ | refine blk_alloc ?_ _)); refine blk_put (cs := #[.int .i64 0, .int .i64 0]) ?_ 0 _ rfl; (with_reducible repeat (first | refine blk_drewN ?_ _ | refine blk_drew ?_ | refine blk_alloc ?_ _)); exact BK142.out⟩, ⟨by repeat (first | (with_reducible first | exact HB.out | apply below_alloc | apply pw_below_drewN | apply below_drew1 | refine below_set ?_ GE138.out | refine below_set ?_ GE142.out) | exact HB.out)⟩⟩
          · rw [if_neg c33] at H
            have c33b0 : (t141 == 0) = false := beq_eq_false_iff_ne.mpr c33
            have c33b1 : (t141 != 0) = true := bne_iff_ne.mpr c33
            have H' := Aside0.mk H
            clear H
            have hnb36 := NB138_142.out
            have hnc36 := NB142_138.out
            have hcz37_0 : w26.cell? ⟨gb138, 0, none⟩ = some (.int .i64 t133) := (blk_cell BK138.out 0).trans rfl
            have hcz37_1 : w26.cell? ⟨gb138, 1, none⟩ = some (.int .i64 t134) := (blk_cell BK138.out 1).trans rfl
            have hcz37_2 : w26.cell? ⟨gb138, 2, none⟩ = some (.int .i64 t135) := (blk_cell BK138.out 2).trans rfl
            have hcz37_3 : w26.cell? ⟨gb138, 3, none⟩ = some (.int .i64 t136) := (blk_cell BK138.out 3).trans rfl
            have hfz37_0 := blk_frozen BK138.out 0
            have hfz37_1 := blk_frozen BK138.out 1
            have hfz37_2 := blk_frozen BK138.out 2
            have hfz37_3 := blk_frozen BK138.out 3
            go_wp2
            go_meet
            case rel => exact ⟨_, ((t133 == 2)), (by first | rfl | (simp; done) | (simp [*]; done)), H', ⟨by first | omega | exact Nat.le_refl _⟩, ⟨by (with_reducible repeat (first | apply Kd.R_alloc | apply Kd.R_drewN | apply Kd.R_drew)); exact Kd.R_mono (Kd.R_far (p := ⟨gb142, 1, none⟩) (Kd.R_far (p := ⟨gb142, 0, none⟩) (Kd.R_types HO129.out BK142.out (by decide)) (fun _ hk => hk.2) (.int .i64 t139)) (fun _ hk => hk.2) (.int .i64 t140)) (fun _ hk => trivial)⟩, ⟨by (with_reducible repeat (first | refine blk_drewN ?_ _ | refine blk_drew ?_ | refine blk_alloc ?_ _)); refine blk_far ?_ NB138_142.out _; (with_reducible repeat (first | refine blk_drewN ?_ _ | refine blk_drew ?_ | refine blk_alloc ?_ _)); refine blk_far ?_ NB138_142.out _; (with_reducible repeat (first | refine blk_drewN ?_ _ | refine blk_drew ?_ | refine blk_alloc ?_ _)); exact BK138.out⟩, ⟨by (with_reducible repeat (first | refine blk_drewN ?_ _ | refine blk_drew ?_ | refine blk_alloc ?_ _)); refine blk_put (cs := #[.int .i64 t139, .int .i64 0]) ?_ 1 _ rfl; (with_reducible repeat (first | refine blk_drewN ?_ _ | refine blk_drew ?_ | refine blk_alloc ?_ _)); refine blk_put (cs := #[.int .i64 0, .int .i64 0]) ?_ 0 _ rfl; (with_reducible repeat (first | refine blk_drewN ?_ _ | refine blk_drew ?_ | refine blk_alloc ?_ _)); exact BK142.out⟩, ⟨by repeat (first | (with_reducible first | exact HB.out | apply below_alloc | apply pw_below_drewN | apply below_drew1 | refine below_set ?_ GE138.out | refine below_set ?_ GE142.out) | exact HB.out)⟩⟩
      · rw [if_neg c29] at H
        have c29b0 : (t137 == 0) = false := beq_eq_false_iff_ne.mpr c29
        have c29b1 : (t137 != 0) = true := bne_iff_ne.mpr c29
        (first | rw [c29b0] | (simp only [i64_w, i32_w]; rw [c29b0]) | rw [c29b1] | skip)
        have H' := Aside0.mk H
        clear H
        go_wp2
        go_meet
        case rel => exact ⟨_, (true), (by first | rfl | (simp; done) | (simp [*]; done)), H', ⟨by first | omega | exact Nat.le_refl _⟩, ⟨by (with_reducible repeat (first | apply Kd.R_alloc | apply Kd.R_drewN | apply Kd.R_drew)); exact Kd.R_mono (Kd.R_far (p := ⟨gb142, 1, none⟩) (Kd.R_far (p := ⟨gb142, 0, none⟩) (Kd.R_types HO129.out BK142.out (by decide)) (fun _ hk => hk.2) (.int .i64 t139)) (fun _ hk => hk.2) (.int .i64 t140)) (fun _ hk => trivial)⟩, ⟨by (with_reducible repeat (first | refine blk_drewN ?_ _ | refine blk_drew ?_ | refine blk_alloc ?_ _)); refine blk_far ?_ NB138_142.out _; (with_reducible repeat (first | refine blk_drewN ?_ _ | refine blk_drew ?_ | refine blk_alloc ?_ _)); refine blk_far ?_ NB138_142.out _; (with_reducible repeat (first | refine blk_drewN ?_ _ | refine blk_drew ?_ | refine blk_alloc ?_ _)); exact BK138.out⟩, ⟨by (with_reducible repeat (first | refine blk_drewN ?_ _ | refine blk_drew ?_ | refine blk_alloc ?_ _)); refine blk_put (cs := #[.int .i64 t139, .int .i64 0]) ?_ 1 _ rfl; (with_reducible repeat (first | refine blk_drewN ?_ _ | refine blk_drew ?_ | refine blk_alloc ?_ _)); refine blk_put (cs := #[.int .i64 0, .int .i64 0]) ?_ 0 _ rfl; (with_reducible repeat (first | refine blk_drewN ?_ _ | refine blk_drew ?_ | refine blk_alloc ?_ _)); exact BK142.out⟩, ⟨by repeat (first | (with_reducible first | exact HB.out | apply below_alloc | apply pw_below_drewN | apply below_drew1 | refine below_set ?_ GE138.out | refine below_set ?_ GE142.out) | exact HB.out)⟩⟩
    case rest =>
      clear HC15
      try clear c1
      try clear c2
      try clear p2
      try clear c3
      try clear c5
      try clear c6
      try clear c13
      try clear c14
      try clear c24
      try clear c25
      try clear c27
      try clear c29
      try clear c29b0
      try clear c29b1
      try clear c30
      try clear c30b0
      try clear c30b1
      try clear c31
      try clear c33
      try clear c33b0
      try clear c33b1
      try clear c34
      try clear c36
      try clear hcz24_0
      try clear hcz24_1
      try clear hcz24_2
      try clear hcz24_3
      try clear hcz28_0
      try clear hcz28_1
      try clear hcz32_0
      try clear hcz32_1
      try clear hcz32_2
      try clear hcz32_3
      try clear hcz35_0
      try clear hcz35_1
      try clear hcz35_2
      try clear hcz35_3
      try clear hcz37_0
      try clear hcz37_1
      try clear hcz37_2
      try clear hcz37_3
      try clear hfz24_0
      try clear hfz24_1
      try clear hfz24_2
      try clear hfz24_3
      try clear hfz28_0
      try clear hfz28_1
      try clear hfz32_0
      try clear hfz32_1
      try clear hfz32_2
      try clear hfz32_3
      try clear hfz35_0
      try clear hfz35_1
      try clear hfz35_2
      try clear hfz35_3
      try clear hfz37_0
      try clear hfz37_1
      try clear hfz37_2
      try clear hfz37_3
      obtain ⟨kq, x68_14, rfl, HA, HJ14, HO_9, BK138, BK142, HB⟩ := hcut
      cases kq with
      | zero => exact absurd HA.out (by simp [dialtonelaw14_LifeMail.j0])
      | succ kj14 =>
        have H := HA.out
        clear HA
        simp only [dialtonelaw14_LifeMail.j0] at H
        by_cases c38 : x68_14 = true
        · subst c38
          have H1 : (some false) = some r := by rw [if_pos rfl] at H; exact H
          clear H
          have H := H1
          clear H1
          obtain rfl := Option.some.inj H
          go_wp2
          go_ret
          exact ⟨by first | rfl | (simp [errW_none, errW_some] <;> rfl) | (simp only [← hji10, ← hji12]; first | rfl | (simp [errW_none, errW_some] <;> rfl)) | (simp [*, errW_none, errW_some] <;> rfl), by repeat (first | (with_reducible first | exact HB.out | apply below_alloc | apply pw_below_drewN | apply below_drew1 | refine below_set ?_ GE138.out | refine below_set ?_ GE142.out) | exact HB.out)⟩
        · replace c38 := Bool.eq_false_iff.mpr c38
          subst c38
          have H1 : (if t141 = 0 then ((life_Fate.f t127 t139 t140 ji10).bind fun bt143 => ((life_Fate.f t127 t139 t140 ji12).bind fun bt146 => ((life_At.f t127 ji10).bind fun bt149 => (if bt143.2.2 = 0 then (if bt146.2.2 = 0 then (if bt149.2.2.2.2 = 0 then (if bt143.1 < 1 then (dialtonelaw14_LifeMail.j1 kj14 bt143.1 bt143.2.1 bt146.1 bt146.2.1 true t133 t134 t135 t136 t139 t140 bt149.1 bt149.2.1 bt149.2.2.1 bt149.2.2.2.1) else (if bt143.1 > 3 then (dialtonelaw14_LifeMail.j1 kj14 bt143.1 bt143.2.1 bt146.1 bt146.2.1 true t133 t134 t135 t136 t139 t140 bt149.1 bt149.2.1 bt149.2.2.1 bt149.2.2.2.1) else (if bt146.1 < 1 then (dialtonelaw14_LifeMail.j1 kj14 bt143.1 bt143.2.1 bt146.1 bt146.2.1 true t133 t134 t135 t136 t139 t140 bt149.1 bt149.2.1 bt149.2.2.1 bt149.2.2.2.1) else (dialtonelaw14_LifeMail.j1 kj14 bt143.1 bt143.2.1 bt146.1 bt146.2.1 (decide (bt146.1 > 3)) t133 t134 t135 t136 t139 t140 bt149.1 bt149.2.1 bt149.2.2.1 bt149.2.2.2.1)))) else (dialtonelaw14_LifeMail.j1 kj14 bt143.1 bt143.2.1 bt146.1 bt146.2.1 true t133 t134 t135 t136 t139 t140 bt149.1 bt149.2.1 bt149.2.2.1 bt149.2.2.2.1)) else (dialtonelaw14_LifeMail.j1 kj14 bt143.1 bt143.2.1 bt146.1 bt146.2.1 true t133 t134 t135 t136 t139 t140 bt149.1 bt149.2.1 bt149.2.2.1 bt149.2.2.2.1)) else (dialtonelaw14_LifeMail.j1 kj14 bt143.1 bt143.2.1 bt146.1 bt146.2.1 true t133 t134 t135 t136 t139 t140 bt149.1 bt149.2.1 bt149.2.2.1 bt149.2.2.2.1))))) else (some (t139 == 0 && (t140 == 0)))) = some r := by rw [if_neg (show ¬ (false = true) by decide)] at H; exact H
          clear H
          have H := H1
          clear H1
          by_cases c39 : t141 = 0
          · rw [if_pos c39] at H
            have c39b0 : (t141 == 0) = true := beq_iff_eq.mpr c39
            have c39b1 : (t141 != 0) = false := bne_eq_false_iff_eq.mpr c39
            clear c39
            replace H := Option.bind_eq_some_iff.mp H
            obtain ⟨⟨t143, t144, t145⟩, A400, H⟩ := H
            replace H : ((life_Fate.f t127 t139 t140 ji12).bind fun bt146 => ((life_At.f t127 ji10).bind fun bt149 => (if t145 = 0 then (if bt146.2.2 = 0 then (if bt149.2.2.2.2 = 0 then (if t143 < 1 then (dialtonelaw14_LifeMail.j1 kj14 t143 t144 bt146.1 bt146.2.1 true t133 t134 t135 t136 t139 t140 bt149.1 bt149.2.1 bt149.2.2.1 bt149.2.2.2.1) else (if t143 > 3 then (dialtonelaw14_LifeMail.j1 kj14 t143 t144 bt146.1 bt146.2.1 true t133 t134 t135 t136 t139 t140 bt149.1 bt149.2.1 bt149.2.2.1 bt149.2.2.2.1) else (if bt146.1 < 1 then (dialtonelaw14_LifeMail.j1 kj14 t143 t144 bt146.1 bt146.2.1 true t133 t134 t135 t136 t139 t140 bt149.1 bt149.2.1 bt149.2.2.1 bt149.2.2.2.1) else (dialtonelaw14_LifeMail.j1 kj14 t143 t144 bt146.1 bt146.2.1 (decide (bt146.1 > 3)) t133 t134 t135 t136 t139 t140 bt149.1 bt149.2.1 bt149.2.2.1 bt149.2.2.2.1)))) else (dialtonelaw14_LifeMail.j1 kj14 t143 t144 bt146.1 bt146.2.1 true t133 t134 t135 t136 t139 t140 bt149.1 bt149.2.1 bt149.2.2.1 bt149.2.2.2.1)) else (dialtonelaw14_LifeMail.j1 kj14 t143 t144 bt146.1 bt146.2.1 true t133 t134 t135 t136 t139 t140 bt149.1 bt149.2.1 bt149.2.2.1 bt149.2.2.2.1)) else (dialtonelaw14_LifeMail.j1 kj14 t143 t144 bt146.1 bt146.2.1 true t133 t134 t135 t136 t139 t140 bt149.1 bt149.2.1 bt149.2.2.1 bt149.2.2.2.1)))) = some r := H
            have A40 := Aside0.mk A400
            clear A400
            replace H := Option.bind_eq_some_iff.mp H
            obtain ⟨⟨t146, t147, t148⟩, A410, H⟩ := H
            replace H : ((life_At.f t127 ji10).bind fun bt149 => (if t145 = 0 then (if t148 = 0 then (if bt149.2.2.2.2 = 0 then (if t143 < 1 then (dialtonelaw14_LifeMail.j1 kj14 t143 t144 t146 t147 true t133 t134 t135 t136 t139 t140 bt149.1 bt149.2.1 bt149.2.2.1 bt149.2.2.2.1) else (if t143 > 3 then (dialtonelaw14_LifeMail.j1 kj14 t143 t144 t146 t147 true t133 t134 t135 t136 t139 t140 bt149.1 bt149.2.1 bt149.2.2.1 bt149.2.2.2.1) else (if t146 < 1 then (dialtonelaw14_LifeMail.j1 kj14 t143 t144 t146 t147 true t133 t134 t135 t136 t139 t140 bt149.1 bt149.2.1 bt149.2.2.1 bt149.2.2.2.1) else (dialtonelaw14_LifeMail.j1 kj14 t143 t144 t146 t147 (decide (t146 > 3)) t133 t134 t135 t136 t139 t140 bt149.1 bt149.2.1 bt149.2.2.1 bt149.2.2.2.1)))) else (dialtonelaw14_LifeMail.j1 kj14 t143 t144 t146 t147 true t133 t134 t135 t136 t139 t140 bt149.1 bt149.2.1 bt149.2.2.1 bt149.2.2.2.1)) else (dialtonelaw14_LifeMail.j1 kj14 t143 t144 t146 t147 true t133 t134 t135 t136 t139 t140 bt149.1 bt149.2.1 bt149.2.2.1 bt149.2.2.2.1)) else (dialtonelaw14_LifeMail.j1 kj14 t143 t144 t146 t147 true t133 t134 t135 t136 t139 t140 bt149.1 bt149.2.1 bt149.2.2.1 bt149.2.2.2.1))) = some r := H
            have A41 := Aside0.mk A410
            clear A410
            replace H := Option.bind_eq_some_iff.mp H
            obtain ⟨⟨t149, t150, t151, t152, t153⟩, A420, H⟩ := H
            replace H : (if t145 = 0 then (if t148 = 0 then (if t153 = 0 then (if t143 < 1 then (dialtonelaw14_LifeMail.j1 kj14 t143 t144 t146 t147 true t133 t134 t135 t136 t139 t140 t149 t150 t151 t152) else (if t143 > 3 then (dialtonelaw14_LifeMail.j1 kj14 t143 t144 t146 t147 true t133 t134 t135 t136 t139 t140 t149 t150 t151 t152) else (if t146 < 1 then (dialtonelaw14_LifeMail.j1 kj14 t143 t144 t146 t147 true t133 t134 t135 t136 t139 t140 t149 t150 t151 t152) else (dialtonelaw14_LifeMail.j1 kj14 t143 t144 t146 t147 (decide (t146 > 3)) t133 t134 t135 t136 t139 t140 t149 t150 t151 t152)))) else (dialtonelaw14_LifeMail.j1 kj14 t143 t144 t146 t147 true t133 t134 t135 t136 t139 t140 t149 t150 t151 t152)) else (dialtonelaw14_LifeMail.j1 kj14 t143 t144 t146 t147 true t133 t134 t135 t136 t139 t140 t149 t150 t151 t152)) else (dialtonelaw14_LifeMail.j1 kj14 t143 t144 t146 t147 true t133 t134 t135 t136 t139 t140 t149 t150 t151 t152)) = some r := H
            have A42 := Aside0.mk A420
            clear A420
            have HC43 := Aside0.mk H
            clear H
            have hnb44 := NB142_138.out
            have hnc44 := NB138_142.out
            have hcz45_0 : wc.cell? ⟨gb142, 0, none⟩ = some (.int .i64 t139) := (blk_cell BK142.out 0).trans rfl
            have hcz45_1 : wc.cell? ⟨gb142, 1, none⟩ = some (.int .i64 t140) := (blk_cell BK142.out 1).trans rfl
            have hfz45_0 := blk_frozen BK142.out 0
            have hfz45_1 := blk_frozen BK142.out 1
            go_upto_region 16 with (first | ((with_reducible refine gate_callee (f := 30) rfl ?_); refine goesL_ (some 78) rfl rfl Try.func30 (by kernel_rfl) rfl #[.slice Ao18 t127.length co18, .agg #[.int .i64 t139, .int .i64 t140], .int .i64 ji10] rfl (by (try simp only [List.map_toArray, List.map_cons, List.map_nil]); first | done | (simp only [hji10]; rfl) | rfl | (simp only [List.length_drop, List.length_take]; rfl)) ?_; (with_reducible refine (life_Fate.calls _ _ t127 t139 t140 ji10 t143 t144 t145 _ ?side1 ?side2 A40.out).mono ?_); (case side1 => repeat (first | exact (Kd.R_reads' HO_9.out).2.2 | (with_reducible refine Kd.C_alloc ?_ _) | (with_reducible refine Kd.C_drewN ?_ _) | (with_reducible refine Kd.C_drew ?_))); (case side2 => exact (Kd.R_reads' HO_9.out).2.1); rintro e w46 ⟨rfl, hb⟩; refine ⟨_, rfl, ?_⟩; have n0_ := Aside0.mk (Kd.R_below (by (with_reducible repeat (first | apply Kd.R_alloc | apply Kd.R_drewN | apply Kd.R_drew)); exact HO_9.out) hb); have n1_ := Aside0.mk (blk_below (g := gb138) (o := .cells #[.int .i64 t133, .int .i64 t134, .int .i64 t135, .int .i64 t136] 26 (0, 0)) (by (with_reducible repeat (first | refine blk_drewN ?_ _ | refine blk_drew ?_ | refine blk_alloc ?_ _)); exact BK138.out) hb); have n2_ := Aside0.mk (blk_below (g := gb142) (o := .cells #[.int .i64 t139, .int .i64 t140] 28 (0, 0)) (by (with_reducible repeat (first | refine blk_drewN ?_ _ | refine blk_drew ?_ | refine blk_alloc ?_ _)); exact BK142.out) hb); have n3_ := Aside0.mk (below_step (by repeat (first | (with_reducible first | exact HB.out | apply below_alloc | apply pw_below_drewN | apply below_drew1 | refine below_set ?_ GE138.out | refine below_set ?_ GE142.out) | exact HB.out)) hb); clear HO_9; clear BK138; clear BK142; clear HB; have HO_9 := n0_; have BK138 := n1_; have BK142 := n2_; have HB := n3_; clear n0_ n1_ n2_ n3_; (try clear hb); (try clear hb2); (try clear hk); (try clear hi); have hcz47_0 : w46.cell? ⟨gb142, 0, none⟩ = some (.int .i64 t139) := (blk_cell BK142.out 0).trans rfl; have hcz47_1 : w46.cell? ⟨gb142, 1, none⟩ = some (.int .i64 t140) := (blk_cell BK142.out 1).trans rfl; have hfz47_0 := blk_frozen BK142.out 0; have hfz47_1 := blk_frozen BK142.out 1) | ((with_reducible refine gate_callee (f := 30) rfl ?_); refine goesL_ (some 86) rfl rfl Try.func30 (by kernel_rfl) rfl #[.slice Ao18 t127.length co18, .agg #[.int .i64 t139, .int .i64 t140], .int .i64 ji12] rfl (by (try simp only [List.map_toArray, List.map_cons, List.map_nil]); first | done | (simp only [hji12]; rfl) | rfl | (simp only [List.length_drop, List.length_take]; rfl)) ?_; (with_reducible refine (life_Fate.calls _ _ t127 t139 t140 ji12 t146 t147 t148 _ ?side1 ?side2 A41.out).mono ?_); (case side1 => repeat (first | exact (Kd.R_reads' HO_9.out).2.2 | (with_reducible refine Kd.C_alloc ?_ _) | (with_reducible refine Kd.C_drewN ?_ _) | (with_reducible refine Kd.C_drew ?_))); (case side2 => exact (Kd.R_reads' HO_9.out).2.1); rintro e w48 ⟨rfl, hb⟩; refine ⟨_, rfl, ?_⟩; have n0_ := Aside0.mk (Kd.R_below (by (with_reducible repeat (first | apply Kd.R_alloc | apply Kd.R_drewN | apply Kd.R_drew)); exact HO_9.out) hb); have n1_ := Aside0.mk (blk_below (g := gb138) (o := .cells #[.int .i64 t133, .int .i64 t134, .int .i64 t135, .int .i64 t136] 26 (0, 0)) (by (with_reducible repeat (first | refine blk_drewN ?_ _ | refine blk_drew ?_ | refine blk_alloc ?_ _)); exact BK138.out) hb); have n2_ := Aside0.mk (blk_below (g := gb142) (o := .cells #[.int .i64 t139, .int .i64 t140] 28 (0, 0)) (by (with_reducible repeat (first | refine blk_drewN ?_ _ | refine blk_drew ?_ | refine blk_alloc ?_ _)); exact BK142.out) hb); have n3_ := Aside0.mk (below_step (by repeat (first | (with_reducible first | exact HB.out | apply below_alloc | apply pw_below_drewN | apply below_drew1 | refine below_set ?_ GE138.out | refine below_set ?_ GE142.out) | exact HB.out)) hb); clear HO_9; clear BK138; clear BK142; clear HB; have HO_9 := n0_; have BK138 := n1_; have BK142 := n2_; have HB := n3_; clear n0_ n1_ n2_ n3_; (try clear hb); (try clear hb2); (try clear hk); (try clear hi)) | ((with_reducible refine gate_callee (f := 25) rfl ?_); refine goesL_ (some 93) rfl rfl Try.func25 (by kernel_rfl) rfl #[.slice Ao18 t127.length co18, .int .i64 ji10] rfl (by (try simp only [List.map_toArray, List.map_cons, List.map_nil]); first | done | (simp only [hji10]; rfl) | rfl | (simp only [List.length_drop, List.length_take]; rfl)) ?_; (with_reducible refine (life_At.calls _ _ t127 ji10 t149 t150 t151 t152 t153 _ ?side1 ?side2 A42.out).mono ?_); (case side1 => repeat (first | exact (Kd.R_reads' HO_9.out).2.2 | (with_reducible refine Kd.C_alloc ?_ _) | (with_reducible refine Kd.C_drewN ?_ _) | (with_reducible refine Kd.C_drew ?_))); (case side2 => exact (Kd.R_reads' HO_9.out).2.1); rintro e w49 ⟨rfl, hb⟩; refine ⟨_, rfl, ?_⟩; have n0_ := Aside0.mk (Kd.R_below (by (with_reducible repeat (first | apply Kd.R_alloc | apply Kd.R_drewN | apply Kd.R_drew)); exact HO_9.out) hb); have n1_ := Aside0.mk (blk_below (g := gb138) (o := .cells #[.int .i64 t133, .int .i64 t134, .int .i64 t135, .int .i64 t136] 26 (0, 0)) (by (with_reducible repeat (first | refine blk_drewN ?_ _ | refine blk_drew ?_ | refine blk_alloc ?_ _)); exact BK138.out) hb); have n2_ := Aside0.mk (blk_below (g := gb142) (o := .cells #[.int .i64 t139, .int .i64 t140] 28 (0, 0)) (by (with_reducible repeat (first | refine blk_drewN ?_ _ | refine blk_drew ?_ | refine blk_alloc ?_ _)); exact BK142.out) hb); have n3_ := Aside0.mk (below_step (by repeat (first | (with_reducible first | exact HB.out | apply below_alloc | apply pw_below_drewN | apply below_drew1 | refine below_set ?_ GE138.out | refine below_set ?_ GE142.out) | exact HB.out)) hb); clear HO_9; clear BK138; clear BK142; clear HB; have HO_9 := n0_; have BK138 := n1_; have BK142 := n2_; have HB := n3_; clear n0_ n1_ n2_ n3_; (try clear hb); (try clear hb2); (try clear hk); (try clear hi)) | ((with_reducible refine gate_dst (N := 23) rfl ?_); refine box_event ?hg (N := 23) ?hd (cs := #[.int .i64 0, .int .i64 0, .int .i64 0, .int .i64 0]) (t := 26) ?hr ?_; (case hd => rfl); (case hg => rfl); (case hr => first | (go_simp; done) | (go_simp; rfl)); intro gb154 hg w50 hbox hb; have n0_ := Aside0.mk (Kd.R_below (by (with_reducible repeat (first | apply Kd.R_alloc | apply Kd.R_drewN | apply Kd.R_drew)); exact HO_9.out) hb); have n1_ := Aside0.mk (blk_below (g := gb138) (o := .cells #[.int .i64 t133, .int .i64 t134, .int .i64 t135, .int .i64 t136] 26 (0, 0)) (by (with_reducible repeat (first | refine blk_drewN ?_ _ | refine blk_drew ?_ | refine blk_alloc ?_ _)); exact BK138.out) hb); have n2_ := Aside0.mk (blk_below (g := gb142) (o := .cells #[.int .i64 t139, .int .i64 t140] 28 (0, 0)) (by (with_reducible repeat (first | refine blk_drewN ?_ _ | refine blk_drew ?_ | refine blk_alloc ?_ _)); exact BK142.out) hb); have n3_ := Aside0.mk (below_step (by repeat (first | (with_reducible first | exact HB.out | apply below_alloc | apply pw_below_drewN | apply below_drew1 | refine below_set ?_ GE138.out | refine below_set ?_ GE142.out) | exact HB.out)) hb); have n4_ := Aside0.mk (hbox); have n5_ := Aside0.mk ((by rw [hg]; exact (below_size (by repeat (first | (with_reducible first | exact HB.out | apply below_alloc | apply pw_below_drewN | apply below_drew1 | refine below_set ?_ GE138.out | refine below_set ?_ GE142.out) | exact HB.out))) : w.heap.size ≤ gb154)); have n6_ := Aside0.mk ((by rw [hg]; exact (below_size (by repeat (first | (with_reducible first | exact HB.out | apply below_alloc | apply pw_below_drewN | apply below_drew1 | refine below_set ?_ GE138.out | refine below_set ?_ GE142.out) | exact HB.out))) : w.heap.size ≤ gb154)); have n7_ := Aside0.mk ((by rw [hg]; exact Nat.ne_of_lt (blk_lt (g := gb138) (o := .cells #[.int .i64 t133, .int .i64 t134, .int .i64 t135, .int .i64 t136] 26 (0, 0)) (by (with_reducible repeat (first | refine blk_drewN ?_ _ | refine blk_drew ?_ | refine blk_alloc ?_ _)); exact BK138.out)) : gb138 ≠ gb154)); have n8_ := Aside0.mk ((by rw [hg]; exact Nat.ne_of_gt (blk_lt (g := gb138) (o := .cells #[.int .i64 t133, .int .i64 t134, .int .i64 t135, .int .i64 t136] 26 (0, 0)) (by (with_reducible repeat (first | refine blk_drewN ?_ _ | refine blk_drew ?_ | refine blk_alloc ?_ _)); exact BK138.out)) : gb154 ≠ gb138)); have n9_ := Aside0.mk ((by rw [hg]; exact Nat.ne_of_lt (blk_lt (g := gb142) (o := .cells #[.int .i64 t139, .int .i64 t140] 28 (0, 0)) (by (with_reducible repeat (first | refine blk_drewN ?_ _ | refine blk_drew ?_ | refine blk_alloc ?_ _)); exact BK142.out)) : gb142 ≠ gb154)); have n10_ := Aside0.mk ((by rw [hg]; exact Nat.ne_of_gt (blk_lt (g := gb142) (o := .cells #[.int .i64 t139, .int .i64 t140] 28 (0, 0)) (by (with_reducible repeat (first | refine blk_drewN ?_ _ | refine blk_drew ?_ | refine blk_alloc ?_ _)); exact BK142.out)) : gb154 ≠ gb142)); clear HO_9; clear BK138; clear BK142; clear HB; have HO_9 := n0_; have BK138 := n1_; have BK142 := n2_; have HB := n3_; have BK154 := n4_; have GW154 := n5_; have GE154 := n6_; have NB138_154 := n7_; have NB154_138 := n8_; have NB142_154 := n9_; have NB154_142 := n10_; clear n0_ n1_ n2_ n3_ n4_ n5_ n6_ n7_ n8_ n9_ n10_; clear hb hbox hg; have hnb51 := NB154_138.out; have hnc51 := NB138_154.out; have hnb52 := NB154_142.out; have hnc52 := NB142_154.out; have hcz53_0 : w50.cell? ⟨gb154, 0, none⟩ = some (.int .i64 0) := (blk_cell BK154.out 0).trans rfl; have hcz53_1 : w50.cell? ⟨gb154, 1, none⟩ = some (.int .i64 0) := (blk_cell BK154.out 1).trans rfl; have hcz53_2 : w50.cell? ⟨gb154, 2, none⟩ = some (.int .i64 0) := (blk_cell BK154.out 2).trans rfl; have hcz53_3 : w50.cell? ⟨gb154, 3, none⟩ = some (.int .i64 0) := (blk_cell BK154.out 3).trans rfl; have hfz53_0 := blk_frozen BK154.out 0; have hfz53_1 := blk_frozen BK154.out 1; have hfz53_2 := blk_frozen BK154.out 2; have hfz53_3 := blk_frozen BK154.out 3))
            (try simp only [Act.put, List.setIfInBounds_toArray, List.set_cons_zero, List.set_cons_succ])
            go_cut [121] (fun v121 wc => ∃ (kq : Nat) (x121_42 : Bool), v121 = .bool x121_42 ∧ Aside0 (dialtonelaw14_LifeMail.j1 kq t143 t144 t146 t147 x121_42 t133 t134 t135 t136 t139 t140 t149 t150 t151 t152 = some r) ∧ Aside0 (kq ≤ kj14) ∧ Aside0 (wc.heap[gb138]? = some (.cells #[.int .i64 t133, .int .i64 t134, .int .i64 t135, .int .i64 t136] 26 (0, 0))) ∧ Aside0 (wc.heap[gb142]? = some (.cells #[.int .i64 t139, .int .i64 t140] 28 (0, 0))) ∧ Aside0 (wc.heap[gb154]? = some (.cells #[.int .i64 t149, .int .i64 t150, .int .i64 t151, .int .i64 t152] 26 (0, 0))) ∧ Aside0 (Below w.heap.size w wc))
            case first =>
              have H := HC43.out
              clear HC43
              by_cases c54 : t145 = 0
              · rw [if_pos c54] at H
                have c54b0 : (t145 == 0) = true := beq_iff_eq.mpr c54
                have c54b1 : (t145 != 0) = false := bne_eq_false_iff_eq.mpr c54
                clear c54
                (first | rw [c54b0] | (simp only [i64_w, i32_w]; rw [c54b0]) | rw [c54b1] | skip)
                by_cases c55 : t148 = 0
                · rw [if_pos c55] at H
                  have c55b0 : (t148 == 0) = true := beq_iff_eq.mpr c55
                  have c55b1 : (t148 != 0) = false := bne_eq_false_iff_eq.mpr c55
                  clear c55
                  by_cases c56 : t153 = 0
                  · rw [if_pos c56] at H
                    have c56b0 : (t153 == 0) = true := beq_iff_eq.mpr c56
                    have c56b1 : (t153 != 0) = false := bne_eq_false_iff_eq.mpr c56
                    clear c56
                    by_cases c57 : t143 < 1
                    · rw [if_pos c57] at H
                      have c57b0 : decide (t143 < 1) = true := decide_eq_true c57
                      clear c57
                      have H' := Aside0.mk H
                      clear H
                      go_wp2
                      go_meet
                      case rel => exact ⟨_, (true), (by first | rfl | (simp; done) | (simp [*]; done)), H', ⟨by have := HJ14.out; first | omega | exact Nat.le_refl _⟩, ⟨by (with_reducible repeat (first | refine blk_drewN ?_ _ | refine blk_drew ?_ | refine blk_alloc ?_ _)); refine blk_far ?_ NB138_154.out _; (with_reducible repeat (first | refine blk_drewN ?_ _ | refine blk_drew ?_ | refine blk_alloc ?_ _)); refine blk_far ?_ NB138_154.out _; (with_reducible repeat (first | refine blk_drewN ?_ _ | refine blk_drew ?_ | refine blk_alloc ?_ _)); refine blk_far ?_ NB138_154.out _; (with_reducible repeat (first | refine blk_drewN ?_ _ | refine blk_drew ?_ | refine blk_alloc ?_ _)); refine blk_far ?_ NB138_154.out _; (with_reducible repeat (first | refine blk_drewN ?_ _ | refine blk_drew ?_ | refine blk_alloc ?_ _)); exact BK138.out⟩, ⟨by (with_reducible repeat (first | refine blk_drewN ?_ _ | refine blk_drew ?_ | refine blk_alloc ?_ _)); refine blk_far ?_ NB142_154.out _; (with_reducible repeat (first | refine blk_drewN ?_ _ | refine blk_drew ?_ | refine blk_alloc ?_ _)); refine blk_far ?_ NB142_154.out _; (with_reducible repeat (first | refine blk_drewN ?_ _ | refine blk_drew ?_ | refine blk_alloc ?_ _)); refine blk_far ?_ NB142_154.out _; (with_reducible repeat (first | refine blk_drewN ?_ _ | refine blk_drew ?_ | refine blk_alloc ?_ _)); refine blk_far ?_ NB142_154.out _; (with_reducible repeat (first | refine blk_drewN ?_ _ | refine blk_drew ?_ | refine blk_alloc ?_ _)); exact BK142.out⟩, ⟨by (with_reducible repeat (first | refine blk_drewN ?_ _ | refine blk_drew ?_ | refine blk_alloc ?_ _)); refine blk_put (cs := #[.int .i64 t149, .int .i64 t150, .int .i64 t151, .int .i64 0]) ?_ 3 _ rfl; (with_reducible repeat (first | refine blk_drewN ?_ _ | refine blk_drew ?_ | refine blk_alloc ?_ _)); refine blk_put (cs := #[.int .i64 t149, .int .i64 t150, .int .i64 0, .int .i64 0]) ?_ 2 _ rfl; (with_reducible repeat (first | refine blk_drewN ?_ _ | refine blk_drew ?_ | refine blk_alloc ?_ _)); refine blk_put (cs := #[.int .i64 t149, .int .i64 0, .int .i64 0, .int .i64 0]) ?_ 1 _ rfl; (with_reducible repeat (first | refine blk_drewN ?_ _ | refine blk_drew ?_ | refine blk_alloc ?_ _)); refine blk_put (cs := #[.int .i64 0, .int .i64 0, .int .i64 0, .int .i64 0]) ?_ 0 _ rfl; (with_reducible repeat (first | refine blk_drewN ?_ _ | refine blk_drew ?_ | refine blk_alloc ?_ _)); exact BK154.out⟩, ⟨by repeat (first | (with_reducible first | exact HB.out | apply below_alloc | apply pw_below_drewN | apply below_drew1 | refine below_set ?_ GE138.out | refine below_set ?_ GE142.out | refine below_set ?_ GE154.out) | exact HB.out)⟩⟩
                    · rw [if_neg c57] at H
                      have c57b0 : decide (t143 < 1) = false := decide_eq_false c57
                      clear c57
                      by_cases c58 : t143 > 3
                      · rw [if_pos c58] at H
                        have c58b0 : decide (3 < t143) = true := decide_eq_true c58
                        clear c58
                        have H' := Aside0.mk H
                        clear H
                        go_wp2
                        go_meet
                        case rel => exact ⟨_, (true), (by first | rfl | (simp; done) | (simp [*]; done)), H', ⟨by have := HJ14.out; first | omega | exact Nat.le_refl _⟩, ⟨by (with_reducible repeat (first | refine blk_drewN ?_ _ | refine blk_drew ?_ | refine blk_alloc ?_ _)); refine blk_far ?_ NB138_154.out _; (with_reducible repeat (first | refine blk_drewN ?_ _ | refine blk_drew ?_ | refine blk_alloc ?_ _)); refine blk_far ?_ NB138_154.out _; (with_reducible repeat (first | refine blk_drewN ?_ _ | refine blk_drew ?_ | refine blk_alloc ?_ _)); refine blk_far ?_ NB138_154.out _; (with_reducible repeat (first | refine blk_drewN ?_ _ | refine blk_drew ?_ | refine blk_alloc ?_ _)); refine blk_far ?_ NB138_154.out _; (with_reducible repeat (first | refine blk_drewN ?_ _ | refine blk_drew ?_ | refine blk_alloc ?_ _)); exact BK138.out⟩, ⟨by (with_reducible repeat (first | refine blk_drewN ?_ _ | refine blk_drew ?_ | refine blk_alloc ?_ _)); refine blk_far ?_ NB142_154.out _; (with_reducible repeat (first | refine blk_drewN ?_ _ | refine blk_drew ?_ | refine blk_alloc ?_ _)); refine blk_far ?_ NB142_154.out _; (with_reducible repeat (first | refine blk_drewN ?_ _ | refine blk_drew ?_ | refine blk_alloc ?_ _)); refine blk_far ?_ NB142_154.out _; (with_reducible repeat (first | refine blk_drewN ?_ _ | refine blk_drew ?_ | refine blk_alloc ?_ _)); refine blk_far ?_ NB142_154.out _; (with_reducible repeat (first | refine blk_drewN ?_ _ | refine blk_drew ?_ | refine blk_alloc ?_ _)); exact BK142.out⟩, ⟨by (with_reducible repeat (first | refine blk_drewN ?_ _ | refine blk_drew ?_ | refine blk_alloc ?_ _)); refine blk_put (cs := #[.int .i64 t149, .int .i64 t150, .int .i64 t151, .int .i64 0]) ?_ 3 _ rfl; (with_reducible repeat (first | refine blk_drewN ?_ _ | refine blk_drew ?_ | refine blk_alloc ?_ _)); refine blk_put (cs := #[.int .i64 t149, .int .i64 t150, .int .i64 0, .int .i64 0]) ?_ 2 _ rfl; (with_reducible repeat (first | refine blk_drewN ?_ _ | refine blk_drew ?_ | refine blk_alloc ?_ _)); refine blk_put (cs := #[.int .i64 t149, .int .i64 0, .int .i64 0, .int .i64 0]) ?_ 1 _ rfl; (with_reducible repeat (first | refine blk_drewN ?_ _ | refine blk_drew ?_ | refine blk_alloc ?_ _)); refine blk_put (cs := #[.int .i64 0, .int .i64 0, .int .i64 0, .int .i64 0]) ?_ 0 _ rfl; (with_reducible repeat (first | refine blk_drewN ?_ _ | refine blk_drew ?_ | refine blk_alloc ?_ _)); exact BK154.out⟩, ⟨by repeat (first | (with_reducible first | exact HB.out | apply below_alloc | apply pw_below_drewN | apply below_drew1 | refine below_set ?_ GE138.out | refine below_set ?_ GE142.out | refine below_set ?_ GE154.out) | exact HB.out)⟩⟩
                      · rw [if_neg c58] at H
                        have c58b0 : decide (3 < t143) = false := decide_eq_false c58
                        clear c58
                        by_cases c59 : t146 < 1
                        · rw [if_pos c59] at H
                          have c59b0 : decide (t146 < 1) = true := decide_eq_true c59
                          clear c59
                          have H' := Aside0.mk H
                          clear H
                          go_wp2
                          go_meet
                          case rel => exact ⟨_, (true), (by first | rfl | (simp; done) | (simp [*]; done)), H', ⟨by have := HJ14.out; first | omega | exact Nat.le_refl _⟩, ⟨by (with_reducible repeat (first | refine blk_drewN ?_ _ | refine blk_drew ?_ | refine blk_alloc ?_ _)); refine blk_far ?_ NB138_154.out _; (with_reducible repeat (first | refine blk_drewN ?_ _ | refine blk_drew ?_ | refine blk_alloc ?_ _)); refine blk_far ?_ NB138_154.out _; (with_reducible repeat (first | refine blk_drewN ?_ _ | refine blk_drew ?_ | refine blk_alloc ?_ _)); refine blk_far ?_ NB138_154.out _; (with_reducible repeat (first | refine blk_drewN ?_ _ | refine blk_drew ?_ | refine blk_alloc ?_ _)); refine blk_far ?_ NB138_154.out _; (with_reducible repeat (first | refine blk_drewN ?_ _ | refine blk_drew ?_ | refine blk_alloc ?_ _)); exact BK138.out⟩, ⟨by (with_reducible repeat (first | refine blk_drewN ?_ _ | refine blk_drew ?_ | refine blk_alloc ?_ _)); refine blk_far ?_ NB142_154.out _; (with_reducible repeat (first | refine blk_drewN ?_ _ | refine blk_drew ?_ | refine blk_alloc ?_ _)); refine blk_far ?_ NB142_154.out _; (with_reducible repeat (first | refine blk_drewN ?_ _ | refine blk_drew ?_ | refine blk_alloc ?_ _)); refine blk_far ?_ NB142_154.out _; (with_reducible repeat (first | refine blk_drewN ?_ _ | refine blk_drew ?_ | refine blk_alloc ?_ _)); refine blk_far ?_ NB142_154.out _; (with_reducible repeat (first | refine blk_drewN ?_ _ | refine blk_drew ?_ | refine blk_alloc ?_ _)); exact BK142.out⟩, ⟨by (with_reducible repeat (first | refine blk_drewN ?_ _ | refine blk_drew ?_ | refine blk_alloc ?_ _)); refine blk_put (cs := #[.int .i64 t149, .int .i64 t150, .int .i64 t151, .int .i64 0]) ?_ 3 _ rfl; (with_reducible repeat (first | refine blk_drewN ?_ _ | refine blk_drew ?_ | refine blk_alloc ?_ _)); refine blk_put (cs := #[.int .i64 t149, .int .i64 t150, .int .i64 0, .int .i64 0]) ?_ 2 _ rfl; (with_reducible repeat (first | refine blk_drewN ?_ _ | refine blk_drew ?_ | refine blk_alloc ?_ _)); refine blk_put (cs := #[.int .i64 t149, .int .i64 0, .int .i64 0, .int .i64 0]) ?_ 1 _ rfl; (with_reducible repeat (first | refine blk_drewN ?_ _ | refine blk_drew ?_ | refine blk_alloc ?_ _)); refine blk_put (cs := #[.int .i64 0, .int .i64 0, .int .i64 0, .int .i64 0]) ?_ 0 _ rfl; (with_reducible repeat (first | refine blk_drewN ?_ _ | refine blk_drew ?_ | refine blk_alloc ?_ _)); exact BK154.out⟩, ⟨by repeat (first | (with_reducible first | exact HB.out | apply below_alloc | apply pw_below_drewN | apply below_drew1 | refine below_set ?_ GE138.out | refine below_set ?_ GE142.out | refine below_set ?_ GE154.out) | exact HB.out)⟩⟩
                        · rw [if_neg c59] at H
                          have c59b0 : decide (t146 < 1) = false := decide_eq_false c59
                          clear c59
                          have H' := Aside0.mk H
                          clear H
                          go_wp2
                          go_meet
                          case rel => exact ⟨_, (decide (t146 > 3)), (by first | rfl | (simp; done) | (simp [*]; done)), H', ⟨by have := HJ14.out; first | omega | exact Nat.le_refl _⟩, ⟨by (with_reducible repeat (first | refine blk_drewN ?_ _ | refine blk_drew ?_ | refine blk_alloc ?_ _)); refine blk_far ?_ NB138_154.out _; (with_reducible repeat (first | refine blk_drewN ?_ _ | refine blk_drew ?_ | refine blk_alloc ?_ _)); refine blk_far ?_ NB138_154.out _; (with_reducible repeat (first | refine blk_drewN ?_ _ | refine blk_drew ?_ | refine blk_alloc ?_ _)); refine blk_far ?_ NB138_154.out _; (with_reducible repeat (first | refine blk_drewN ?_ _ | refine blk_drew ?_ | refine blk_alloc ?_ _)); refine blk_far ?_ NB138_154.out _; (with_reducible repeat (first | refine blk_drewN ?_ _ | refine blk_drew ?_ | refine blk_alloc ?_ _)); exact BK138.out⟩, ⟨by (with_reducible repeat (first | refine blk_drewN ?_ _ | refine blk_drew ?_ | refine blk_alloc ?_ _)); refine blk_far ?_ NB142_154.out _; (with_reducible repeat (first | refine blk_drewN ?_ _ | refine blk_drew ?_ | refine blk_alloc ?_ _)); refine blk_far ?_ NB142_154.out _; (with_reducible repeat (first | refine blk_drewN ?_ _ | refine blk_drew ?_ | refine blk_alloc ?_ _)); refine blk_far ?_ NB142_154.out _; (with_reducible repeat (first | refine blk_drewN ?_ _ | refine blk_drew ?_ | refine blk_alloc ?_ _)); refine blk_far ?_ NB142_154.out _; (with_reducible repeat (first | refine blk_drewN ?_ _ | refine blk_drew ?_ | refine blk_alloc ?_ _)); exact BK142.out⟩, ⟨by (with_reducible repeat (first | refine blk_drewN ?_ _ | refine blk_drew ?_ | refine blk_alloc ?_ _)); refine blk_put (cs := #[.int .i64 t149, .int .i64 t150, .int .i64 t151, .int .i64 0]) ?_ 3 _ rfl; (with_reducible repeat (first | refine blk_drewN ?_ _ | refine blk_drew ?_ | refine blk_alloc ?_ _)); refine blk_put (cs := #[.int .i64 t149, .int .i64 t150, .int .i64 0, .int .i64 0]) ?_ 2 _ rfl; (with_reducible repeat (first | refine blk_drewN ?_ _ | refine blk_drew ?_ | refine blk_alloc ?_ _)); refine blk_put (cs := #[.int .i64 t149, .int .i64 0, .int .i64 0, .int .i64 0]) ?_ 1 _ rfl; (with_reducible repeat (first | refine blk_drewN ?_ _ | refine blk_drew ?_ | refine blk_alloc ?_ _)); refine blk_put (cs := #[.int .i64 0, .int .i64 0, .int .i64 0, .int .i64 0]) ?_ 0 _ rfl; (with_reducible repeat (first | refine blk_drewN ?_ _ | refine blk_drew ?_ | refine blk_alloc ?_ _)); exact BK154.out⟩, ⟨by repeat (first | (with_reducible first | exact HB.out | apply below_alloc | apply pw_below_drewN | apply below_drew1 | refine below_set ?_ GE138.out | refine below_set ?_ GE142.out | refine below_set ?_ GE154.out) | exact HB.out)⟩⟩
                  · rw [if_neg c56] at H
                    have c56b0 : (t153 == 0) = false := beq_eq_false_iff_ne.mpr c56
                    have c56b1 : (t153 != 0) = true := bne_iff_ne.mpr c56
                    have H' := Aside0.mk H
                    clear H
                    go_wp2
                    go_meet
                    case rel => exact ⟨_, (true), (by first | rfl | (simp; done) | (simp [*]; done)), H', ⟨by have := HJ14.out; first | omega | exact Nat.le_refl _⟩, ⟨by (with_reducible repeat (first | refine blk_drewN ?_ _ | refine blk_drew ?_ | refine blk_alloc ?_ _)); refine blk_far ?_ NB138_154.out _; (with_reducible repeat (first | refine blk_drewN ?_ _ | refine blk_drew ?_ | refine blk_alloc ?_ _)); refine blk_far ?_ NB138_154.out _; (with_reducible repeat (first | refine blk_drewN ?_ _ | refine blk_drew ?_ | refine blk_alloc ?_ _)); refine blk_far ?_ NB138_154.out _; (with_reducible repeat (first | refine blk_drewN ?_ _ | refine blk_drew ?_ | refine blk_alloc ?_ _)); refine blk_far ?_ NB138_154.out _; (with_reducible repeat (first | refine blk_drewN ?_ _ | refine blk_drew ?_ | refine blk_alloc ?_ _)); exact BK138.out⟩, ⟨by (with_reducible repeat (first | refine blk_drewN ?_ _ | refine blk_drew ?_ | refine blk_alloc ?_ _)); refine blk_far ?_ NB142_154.out _; (with_reducible repeat (first | refine blk_drewN ?_ _ | refine blk_drew ?_ | refine blk_alloc ?_ _)); refine blk_far ?_ NB142_154.out _; (with_reducible repeat (first | refine blk_drewN ?_ _ | refine blk_drew ?_ | refine blk_alloc ?_ _)); refine blk_far ?_ NB142_154.out _; (with_reducible repeat (first | refine blk_drewN ?_ _ | refine blk_drew ?_ | refine blk_alloc ?_ _)); refine blk_far ?_ NB142_154.out _; (with_reducible repeat (first | refine blk_drewN ?_ _ | refine blk_drew ?_ | refine blk_alloc ?_ _)); exact BK142.out⟩, ⟨by (with_reducible repeat (first | refine blk_drewN ?_ _ | refine blk_drew ?_ | refine blk_alloc ?_ _)); refine blk_put (cs := #[.int .i64 t149, .int .i64 t150, .int .i64 t151, .int .i64 0]) ?_ 3 _ rfl; (with_reducible repeat (first | refine blk_drewN ?_ _ | refine blk_drew ?_ | refine blk_alloc ?_ _)); refine blk_put (cs := #[.int .i64 t149, .int .i64 t150, .int .i64 0, .int .i64 0]) ?_ 2 _ rfl; (with_reducible repeat (first | refine blk_drewN ?_ _ | refine blk_drew ?_ | refine blk_alloc ?_ _)); refine blk_put (cs := #[.int .i64 t149, .int .i64 0, .int .i64 0, .int .i64 0]) ?_ 1 _ rfl; (with_reducible repeat (first | refine blk_drewN ?_ _ | refine blk_drew ?_ | refine blk_alloc ?_ _)); refine blk_put (cs := #[.int .i64 0, .int .i64 0, .int .i64 0, .int .i64 0]) ?_ 0 _ rfl; (with_reducible repeat (first | refine blk_drewN ?_ _ | refine blk_drew ?_ | refine blk_alloc ?_ _)); exact BK154.out⟩, ⟨by repeat (first | (with_reducible first | exact HB.out | apply below_alloc | apply pw_below_drewN | apply below_drew1 | refine below_set ?_ GE138.out | refine below_set ?_ GE142.out | refine below_set ?_ GE154.out) | exact HB.out)⟩⟩
                · rw [if_neg c55] at H
                  have c55b0 : (t148 == 0) = false := beq_eq_false_iff_ne.mpr c55
                  have c55b1 : (t148 != 0) = true := bne_iff_ne.mpr c55
                  have H' := Aside0.mk H
                  clear H
                  go_wp2
                  go_meet
                  case rel => exact ⟨_, (true), (by first | rfl | (simp; done) | (simp [*]; done)), H', ⟨by have := HJ14.out; first | omega | exact Nat.le_refl _⟩, ⟨by (with_reducible repeat (first | refine blk_drewN ?_ _ | refine blk_drew ?_ | refine blk_alloc ?_ _)); refine blk_far ?_ NB138_154.out _; (with_reducible repeat (first | refine blk_drewN ?_ _ | refine blk_drew ?_ | refine blk_alloc ?_ _)); refine blk_far ?_ NB138_154.out _; (with_reducible repeat (first | refine blk_drewN ?_ _ | refine blk_drew ?_ | refine blk_alloc ?_ _)); refine blk_far ?_ NB138_154.out _; (with_reducible repeat (first | refine blk_drewN ?_ _ | refine blk_drew ?_ | refine blk_alloc ?_ _)); refine blk_far ?_ NB138_154.out _; (with_reducible repeat (first | refine blk_drewN ?_ _ | refine blk_drew ?_ | refine blk_alloc ?_ _)); exact BK138.out⟩, ⟨by (with_reducible repeat (first | refine blk_drewN ?_ _ | refine blk_drew ?_ | refine blk_alloc ?_ _)); refine blk_far ?_ NB142_154.out _; (with_reducible repeat (first | refine blk_drewN ?_ _ | refine blk_drew ?_ | refine blk_alloc ?_ _)); refine blk_far ?_ NB142_154.out _; (with_reducible repeat (first | refine blk_drewN ?_ _ | refine blk_drew ?_ | refine blk_alloc ?_ _)); refine blk_far ?_ NB142_154.out _; (with_reducible repeat (first | refine blk_drewN ?_ _ | refine blk_drew ?_ | refine blk_alloc ?_ _)); refine blk_far ?_ NB142_154.out _; (with_reducible repeat (first | refine blk_drewN ?_ _ | refine blk_drew ?_ | refine blk_alloc ?_ _)); exact BK142.out⟩, ⟨by (with_reducible repeat (first | refine blk_drewN ?_ _ | refine blk_drew ?_ | refine blk_alloc ?_ _)); refine blk_put (cs := #[.int .i64 t149, .int .i64 t150, .int .i64 t151, .int .i64 0]) ?_ 3 _ rfl; (with_reducible repeat (first | refine blk_drewN ?_ _ | refine blk_drew ?_ | refine blk_alloc ?_ _)); refine blk_put (cs := #[.int .i64 t149, .int .i64 t150, .int .i64 0, .int .i64 0]) ?_ 2 _ rfl; (with_reducible repeat (first | refine blk_drewN ?_ _ | refine blk_drew ?_ | refine blk_alloc ?_ _)); refine blk_put (cs := #[.int .i64 t149, .int .i64 0, .int .i64 0, .int .i64 0]) ?_ 1 _ rfl; (with_reducible repeat (first | refine blk_drewN ?_ _ | refine blk_drew ?_ | refine blk_alloc ?_ _)); refine blk_put (cs := #[.int .i64 0, .int .i64 0, .int .i64 0, .int .i64 0]) ?_ 0 _ rfl; (with_reducible repeat (first | refine blk_drewN ?_ _ | refine blk_drew ?_ | refine blk_alloc ?_ _)); exact BK154.out⟩, ⟨by repeat (first | (with_reducible first | exact HB.out | apply below_alloc | apply pw_below_drewN | apply below_drew1 | refine below_set ?_ GE138.out | refine below_set ?_ GE142.out | refine below_set ?_ GE154.out) | exact HB.out)⟩⟩
              · rw [if_neg c54] at H
                have c54b0 : (t145 == 0) = false := beq_eq_false_iff_ne.mpr c54
                have c54b1 : (t145 != 0) = true := bne_iff_ne.mpr c54
                (first | rw [c54b0] | (simp only [i64_w, i32_w]; rw [c54b0]) | rw [c54b1] | skip)
                have H' := Aside0.mk H
                clear H
                go_wp2
                go_meet
                case rel => exact ⟨_, (true), (by first | rfl | (simp; done) | (simp [*]; done)), H', ⟨by have := HJ14.out; first | omega | exact Nat.le_refl _⟩, ⟨by (with_reducible repeat (first | refine blk_drewN ?_ _ | refine blk_drew ?_ | refine blk_alloc ?_ _)); refine blk_far ?_ NB138_154.out _; (with_reducible repeat (first | refine blk_drewN ?_ _ | refine blk_drew ?_ | refine blk_alloc ?_ _)); refine blk_far ?_ NB138_154.out _; (with_reducible repeat (first | refine blk_drewN ?_ _ | refine blk_drew ?_ | refine blk_alloc ?_ _)); refine blk_far ?_ NB138_154.out _; (with_reducible repeat (first | refine blk_drewN ?_ _ | refine blk_drew ?_ | refine blk_alloc ?_ _)); refine blk_far ?_ NB138_154.out _; (with_reducible repeat (first | refine blk_drewN ?_ _ | refine blk_drew ?_ | refine blk_alloc ?_ _)); exact BK138.out⟩, ⟨by (with_reducible repeat (first | refine blk_drewN ?_ _ | refine blk_drew ?_ | refine blk_alloc ?_ _)); refine blk_far ?_ NB142_154.out _; (with_reducible repeat (first | refine blk_drewN ?_ _ | refine blk_drew ?_ | refine blk_alloc ?_ _)); refine blk_far ?_ NB142_154.out _; (with_reducible repeat (first | refine blk_drewN ?_ _ | refine blk_drew ?_ | refine blk_alloc ?_ _)); refine blk_far ?_ NB142_154.out _; (with_reducible repeat (first | refine blk_drewN ?_ _ | refine blk_drew ?_ | refine blk_alloc ?_ _)); refine blk_far ?_ NB142_154.out _; (with_reducible repeat (first | refine blk_drewN ?_ _ | refine blk_drew ?_ | refine blk_alloc ?_ _)); exact BK142.out⟩, ⟨by (with_reducible repeat (first | refine blk_drewN ?_ _ | refine blk_drew ?_ | refine blk_alloc ?_ _)); refine blk_put (cs := #[.int .i64 t149, .int .i64 t150, .int .i64 t151, .int .i64 0]) ?_ 3 _ rfl; (with_reducible repeat (first | refine blk_drewN ?_ _ | refine blk_drew ?_ | refine blk_alloc ?_ _)); refine blk_put (cs := #[.int .i64 t149, .int .i64 t150, .int .i64 0, .int .i64 0]) ?_ 2 _ rfl; (with_reducible repeat (first | refine blk_drewN ?_ _ | refine blk_drew ?_ | refine blk_alloc ?_ _)); refine blk_put (cs := #[.int .i64 t149, .int .i64 0, .int .i64 0, .int .i64 0]) ?_ 1 _ rfl; (with_reducible repeat (first | refine blk_drewN ?_ _ | refine blk_drew ?_ | refine blk_alloc ?_ _)); refine blk_put (cs := #[.int .i64 0, .int .i64 0, .int .i64 0, .int .i64 0]) ?_ 0 _ rfl; (with_reducible repeat (first | refine blk_drewN ?_ _ | refine blk_drew ?_ | refine blk_alloc ?_ _)); exact BK154.out⟩, ⟨by repeat (first | (with_reducible first | exact HB.out | apply below_alloc | apply pw_below_drewN | apply below_drew1 | refine below_set ?_ GE138.out | refine below_set ?_ GE142.out | refine below_set ?_ GE154.out) | exact HB.out)⟩⟩
            case rest =>
              clear HC43
              try clear c1
              try clear c2
              try clear p2
              try clear c3
              try clear c4
              try clear c5
              try clear c6
              try clear c13
              try clear c14
              try clear c24
              try clear c25
              try clear c27
              try clear c29
              try clear c29b0
              try clear c29b1
              try clear c30
              try clear c30b0
              try clear c30b1
              try clear c31
              try clear c33
              try clear c33b0
              try clear c33b1
              try clear c34
              try clear c36
              try clear c38
              try clear c39
              try clear c39b0
              try clear c39b1
              try clear c44
              try clear c51
              try clear c52
              try clear c54
              try clear c54b0
              try clear c54b1
              try clear c55
              try clear c55b0
              try clear c55b1
              try clear c56
              try clear c56b0
              try clear c56b1
              try clear c57
              try clear c57b0
              try clear c58
              try clear c58b0
              try clear c59
              try clear c59b0
              try clear hcz24_0
              try clear hcz24_1
              try clear hcz24_2
              try clear hcz24_3
              try clear hcz28_0
              try clear hcz28_1
              try clear hcz32_0
              try clear hcz32_1
              try clear hcz32_2
              try clear hcz32_3
              try clear hcz35_0
              try clear hcz35_1
              try clear hcz35_2
              try clear hcz35_3
              try clear hcz37_0
              try clear hcz37_1
              try clear hcz37_2
              try clear hcz37_3
              try clear hcz45_0
              try clear hcz45_1
              try clear hcz47_0
              try clear hcz47_1
              try clear hcz53_0
              try clear hcz53_1
              try clear hcz53_2
              try clear hcz53_3
              try clear hfz24_0
              try clear hfz24_1
              try clear hfz24_2
              try clear hfz24_3
              try clear hfz28_0
              try clear hfz28_1
              try clear hfz32_0
              try clear hfz32_1
              try clear hfz32_2
              try clear hfz32_3
              try clear hfz35_0
              try clear hfz35_1
              try clear hfz35_2
              try clear hfz35_3
              try clear hfz37_0
              try clear hfz37_1
              try clear hfz37_2
              try clear hfz37_3
              try clear hfz45_0
              try clear hfz45_1
              try clear hfz47_0
              try clear hfz47_1
              try clear hfz53_0
              try clear hfz53_1
              try clear hfz53_2
              try clear hfz53_3
              try clear p2
              obtain ⟨kq, x121_42, rfl, HA, HJ42, BK138, BK142, BK154, HB⟩ := hcut
              cases kq with
              | zero => exact absurd HA.out (by simp [dialtonelaw14_LifeMail.j1])
              | succ kj42 =>
                have H := HA.out
                clear HA
                simp only [dialtonelaw14_LifeMail.j1] at H
                by_cases c60 : x121_42 = true
                · subst c60
                  have H1 : (some false) = some r := by rw [if_pos rfl] at H; exact H
                  clear H
                  have H := H1
                  clear H1
                  obtain rfl := Option.some.inj H
                  go_wp2
                  go_ret
                  exact ⟨by first | rfl | (simp [errW_none, errW_some] <;> rfl) | (simp only [← hji10, ← hji12]; first | rfl | (simp [errW_none, errW_some] <;> rfl)) | (simp [*, errW_none, errW_some] <;> rfl), by repeat (first | (with_reducible first | exact HB.out | apply below_alloc | apply pw_below_drewN | apply below_drew1 | refine below_set ?_ GE138.out | refine below_set ?_ GE142.out | refine below_set ?_ GE154.out) | exact HB.out)⟩
                · replace c60 := Bool.eq_false_iff.mpr c60
                  subst c60
                  have H1 : (if t143 = 1 then (if t144 ≥ 0 then (if t144 = t134 then (if t151 = t139 then (if t149 = 1 then (if t143 = 3 then (if t146 = 3 then (if t146 = 1 then (some (t147 == t134)) else (some true)) else (some false)) else (if t146 = 1 then (some (t147 == t134)) else (some true))) else (some false)) else (some false)) else (some false)) else (some false)) else (if t144 ≥ 0 then (some false) else (if t143 = 3 then (if t146 = 3 then (if t146 = 1 then (some (t147 == t134)) else (some true)) else (some false)) else (if t146 = 1 then (some (t147 == t134)) else (some true))))) = some r := by rw [if_neg (show ¬ (false = true) by decide)] at H; exact H
                  clear H
                  have H := H1
                  clear H1
                  by_cases c61 : t143 = 1
                  · rw [if_pos c61] at H
                    have c61b0 : (t143 == 1) = true := beq_iff_eq.mpr c61
                    have c61b1 : (t143 != 1) = false := bne_eq_false_iff_eq.mpr c61
                    clear c61
                    by_cases c62 : t144 ≥ 0
                    · rw [if_pos c62] at H
                      have c62b0 : decide (0 ≤ t144) = true := decide_eq_true c62
                      clear c62
                      by_cases c63 : t144 = t134
                      · rw [if_pos c63] at H
                        have c63b0 : (t144 == t134) = true := beq_iff_eq.mpr c63
                        have c63b1 : (t144 != t134) = false := bne_eq_false_iff_eq.mpr c63
                        clear c63
                        by_cases c64 : t151 = t139
                        · rw [if_pos c64] at H
                          have c64b0 : (t151 == t139) = true := beq_iff_eq.mpr c64
                          have c64b1 : (t151 != t139) = false := bne_eq_false_iff_eq.mpr c64
                          clear c64
                          by_cases c65 : t149 = 1
                          · rw [if_pos c65] at H
                            have c65b0 : (t149 == 1) = true := beq_iff_eq.mpr c65
                            have c65b1 : (t149 != 1) = false := bne_eq_false_iff_eq.mpr c65
                            clear c65
                            by_cases c66 : t143 = 3
                            · rw [if_pos c66] at H
                              have c66b0 : (t143 == 3) = true := beq_iff_eq.mpr c66
                              have c66b1 : (t143 != 3) = false := bne_eq_false_iff_eq.mpr c66
                              clear c66
                              by_cases c67 : t146 = 3
                              · rw [if_pos c67] at H
                                have c67b0 : (t146 == 3) = true := beq_iff_eq.mpr c67
                                have c67b1 : (t146 != 3) = false := bne_eq_false_iff_eq.mpr c67
                                clear c67
                                by_cases c68 : t146 = 1
                                · rw [if_pos c68] at H
                                  have c68b0 : (t146 == 1) = true := beq_iff_eq.mpr c68
                                  have c68b1 : (t146 != 1) = false := bne_eq_false_iff_eq.mpr c68
                                  clear c68
                                  obtain rfl := Option.some.inj H
                                  have hnb69 := NB138_142.out
                                  have hnc69 := NB142_138.out
                                  have hnb70 := NB138_154.out
                                  have hnc70 := NB154_138.out
                                  have hcz71_0 : wc.cell? ⟨gb138, 0, none⟩ = some (.int .i64 t133) := (blk_cell BK138.out 0).trans rfl
                                  have hcz71_1 : wc.cell? ⟨gb138, 1, none⟩ = some (.int .i64 t134) := (blk_cell BK138.out 1).trans rfl
                                  have hcz71_2 : wc.cell? ⟨gb138, 2, none⟩ = some (.int .i64 t135) := (blk_cell BK138.out 2).trans rfl
                                  have hcz71_3 : wc.cell? ⟨gb138, 3, none⟩ = some (.int .i64 t136) := (blk_cell BK138.out 3).trans rfl
                                  have hfz71_0 := blk_frozen BK138.out 0
                                  have hfz71_1 := blk_frozen BK138.out 1
                                  have hfz71_2 := blk_frozen BK138.out 2
                                  have hfz71_3 := blk_frozen BK138.out 3
                                  have hnb72 := NB154_142.out
                                  have hnc72 := NB142_154.out
                                  have hcz73_0 : wc.cell? ⟨gb154, 0, none⟩ = some (.int .i64 t149) := (blk_cell BK154.out 0).trans rfl
                                  have hcz73_1 : wc.cell? ⟨gb154, 1, none⟩ = some (.int .i64 t150) := (blk_cell BK154.out 1).trans rfl
                                  have hcz73_2 : wc.cell? ⟨gb154, 2, none⟩ = some (.int .i64 t151) := (blk_cell BK154.out 2).trans rfl
                                  have hcz73_3 : wc.cell? ⟨gb154, 3, none⟩ = some (.int .i64 t152) := (blk_cell BK154.out 3).trans rfl
                                  have hfz73_0 := blk_frozen BK154.out 0
                                  have hfz73_1 := blk_frozen BK154.out 1
                                  have hfz73_2 := blk_frozen BK154.out 2
                                  have hfz73_3 := blk_frozen BK154.out 3
                                  have hcz74_0 : wc.cell? ⟨gb142, 0, none⟩ = some (.int .i64 t139) := (blk_cell BK142.out 0).trans rfl
                                  have hcz74_1 : wc.cell? ⟨gb142, 1, none⟩ = some (.int .i64 t140) := (blk_cell BK142.out 1).trans rfl
                                  have hfz74_0 := blk_frozen BK142.out 0
                                  have hfz74_1 := blk_frozen BK142.out 1
                                  go_wp2
                                  go_ret
                                  exact ⟨by first | rfl | (simp [errW_none, errW_some] <;> rfl) | (simp only [← hji10, ← hji12]; first | rfl | (simp [errW_none, errW_some] <;> rfl)) | (simp [*, errW_none, errW_some] <;> rfl), by repeat (first | (with_reducible first | exact HB.out | apply below_alloc | apply pw_below_drewN | apply below_drew1 | refine below_set ?_ GE138.out | refine below_set ?_ GE142.out | refine below_set ?_ GE154.out) | exact HB.out)⟩
                                · rw [if_neg c68] at H
                                  have c68b0 : (t146 == 1) = false := beq_eq_false_iff_ne.mpr c68
                                  have c68b1 : (t146 != 1) = true := bne_iff_ne.mpr c68
                                  obtain rfl := Option.some.inj H
                                  have hnb75 := NB138_142.out
                                  have hnc75 := NB142_138.out
                                  have hnb76 := NB138_154.out
                                  have hnc76 := NB154_138.out
                                  have hcz77_0 : wc.cell? ⟨gb138, 0, none⟩ = some (.int .i64 t133) := (blk_cell BK138.out 0).trans rfl
                                  have hcz77_1 : wc.cell? ⟨gb138, 1, none⟩ = some (.int .i64 t134) := (blk_cell BK138.out 1).trans rfl
                                  have hcz77_2 : wc.cell? ⟨gb138, 2, none⟩ = some (.int .i64 t135) := (blk_cell BK138.out 2).trans rfl
                                  have hcz77_3 : wc.cell? ⟨gb138, 3, none⟩ = some (.int .i64 t136) := (blk_cell BK138.out 3).trans rfl
                                  have hfz77_0 := blk_frozen BK138.out 0
                                  have hfz77_1 := blk_frozen BK138.out 1
                                  have hfz77_2 := blk_frozen BK138.out 2
                                  have hfz77_3 := blk_frozen BK138.out 3
                                  have hnb78 := NB154_142.out
                                  have hnc78 := NB142_154.out
                                  have hcz79_0 : wc.cell? ⟨gb154, 0, none⟩ = some (.int .i64 t149) := (blk_cell BK154.out 0).trans rfl
                                  have hcz79_1 : wc.cell? ⟨gb154, 1, none⟩ = some (.int .i64 t150) := (blk_cell BK154.out 1).trans rfl
                                  have hcz79_2 : wc.cell? ⟨gb154, 2, none⟩ = some (.int .i64 t151) := (blk_cell BK154.out 2).trans rfl
                                  have hcz79_3 : wc.cell? ⟨gb154, 3, none⟩ = some (.int .i64 t152) := (blk_cell BK154.out 3).trans rfl
                                  have hfz79_0 := blk_frozen BK154.out 0
                                  have hfz79_1 := blk_frozen BK154.out 1
                                  have hfz79_2 := blk_frozen BK154.out 2
                                  have hfz79_3 := blk_frozen BK154.out 3
                                  have hcz80_0 : wc.cell? ⟨gb142, 0, none⟩ = some (.int .i64 t139) := (blk_cell BK142.out 0).trans rfl
                                  have hcz80_1 : wc.cell? ⟨gb142, 1, none⟩ = some (.int .i64 t140) := (blk_cell BK142.out 1).trans rfl
                                  have hfz80_0 := blk_frozen BK142.out 0
                                  have hfz80_1 := blk_frozen BK142.out 1
                                  go_wp2
                                  go_ret
                                  exact ⟨by first | rfl | (simp [errW_none, errW_some] <;> rfl) | (simp only [← hji10, ← hji12]; first | rfl | (simp [errW_none, errW_some] <;> rfl)) | (simp [*, errW_none, errW_some] <;> rfl), by repeat (first | (with_reducible first | exact HB.out | apply below_alloc | apply pw_below_drewN | apply below_drew1 | refine below_set ?_ GE138.out | refine below_set ?_ GE142.out | refine below_set ?_ GE154.out) | exact HB.out)⟩
                              · rw [if_neg c67] at H
                                have c67b0 : (t146 == 3) = false := beq_eq_false_iff_ne.mpr c67
                                have c67b1 : (t146 != 3) = true := bne_iff_ne.mpr c67
                                obtain rfl := Option.some.inj H
                                have hnb81 := NB138_142.out
                                have hnc81 := NB142_138.out
                                have hnb82 := NB138_154.out
                                have hnc82 := NB154_138.out
                                have hcz83_0 : wc.cell? ⟨gb138, 0, none⟩ = some (.int .i64 t133) := (blk_cell BK138.out 0).trans rfl
                                have hcz83_1 : wc.cell? ⟨gb138, 1, none⟩ = some (.int .i64 t134) := (blk_cell BK138.out 1).trans rfl
                                have hcz83_2 : wc.cell? ⟨gb138, 2, none⟩ = some (.int .i64 t135) := (blk_cell BK138.out 2).trans rfl
                                have hcz83_3 : wc.cell? ⟨gb138, 3, none⟩ = some (.int .i64 t136) := (blk_cell BK138.out 3).trans rfl
                                have hfz83_0 := blk_frozen BK138.out 0
                                have hfz83_1 := blk_frozen BK138.out 1
                                have hfz83_2 := blk_frozen BK138.out 2
                                have hfz83_3 := blk_frozen BK138.out 3
                                have hnb84 := NB154_142.out
                                have hnc84 := NB142_154.out
                                have hcz85_0 : wc.cell? ⟨gb154, 0, none⟩ = some (.int .i64 t149) := (blk_cell BK154.out 0).trans rfl
                                have hcz85_1 : wc.cell? ⟨gb154, 1, none⟩ = some (.int .i64 t150) := (blk_cell BK154.out 1).trans rfl
                                have hcz85_2 : wc.cell? ⟨gb154, 2, none⟩ = some (.int .i64 t151) := (blk_cell BK154.out 2).trans rfl
                                have hcz85_3 : wc.cell? ⟨gb154, 3, none⟩ = some (.int .i64 t152) := (blk_cell BK154.out 3).trans rfl
                                have hfz85_0 := blk_frozen BK154.out 0
                                have hfz85_1 := blk_frozen BK154.out 1
                                have hfz85_2 := blk_frozen BK154.out 2
                                have hfz85_3 := blk_frozen BK154.out 3
                                have hcz86_0 : wc.cell? ⟨gb142, 0, none⟩ = some (.int .i64 t139) := (blk_cell BK142.out 0).trans rfl
                                have hcz86_1 : wc.cell? ⟨gb142, 1, none⟩ = some (.int .i64 t140) := (blk_cell BK142.out 1).trans rfl
                                have hfz86_0 := blk_frozen BK142.out 0
                                have hfz86_1 := blk_frozen BK142.out 1
                                go_wp2
                                go_ret
                                exact ⟨by first | rfl | (simp [errW_none, errW_some] <;> rfl) | (simp only [← hji10, ← hji12]; first | rfl | (simp [errW_none, errW_some] <;> rfl)) | (simp [*, errW_none, errW_some] <;> rfl), by repeat (first | (with_reducible first | exact HB.out | apply below_alloc | apply pw_below_drewN | apply below_drew1 | refine below_set ?_ GE138.out | refine below_set ?_ GE142.out | refine below_set ?_ GE154.out) | exact HB.out)⟩
                            · rw [if_neg c66] at H
                              have c66b0 : (t143 == 3) = false := beq_eq_false_iff_ne.mpr c66
                              have c66b1 : (t143 != 3) = true := bne_iff_ne.mpr c66
                              by_cases c87 : t146 = 1
                              · rw [if_pos c87] at H
                                have c87b0 : (t146 == 1) = true := beq_iff_eq.mpr c87
                                have c87b1 : (t146 != 1) = false := bne_eq_false_iff_eq.mpr c87
                                clear c87
                                obtain rfl := Option.some.inj H
                                have hnb88 := NB138_142.out
                                have hnc88 := NB142_138.out
                                have hnb89 := NB138_154.out
                                have hnc89 := NB154_138.out
                                have hcz90_0 : wc.cell? ⟨gb138, 0, none⟩ = some (.int .i64 t133) := (blk_cell BK138.out 0).trans rfl
                                have hcz90_1 : wc.cell? ⟨gb138, 1, none⟩ = some (.int .i64 t134) := (blk_cell BK138.out 1).trans rfl
                                have hcz90_2 : wc.cell? ⟨gb138, 2, none⟩ = some (.int .i64 t135) := (blk_cell BK138.out 2).trans rfl
                                have hcz90_3 : wc.cell? ⟨gb138, 3, none⟩ = some (.int .i64 t136) := (blk_cell BK138.out 3).trans rfl
                                have hfz90_0 := blk_frozen BK138.out 0
                                have hfz90_1 := blk_frozen BK138.out 1
                                have hfz90_2 := blk_frozen BK138.out 2
                                have hfz90_3 := blk_frozen BK138.out 3
                                have hnb91 := NB154_142.out
                                have hnc91 := NB142_154.out
                                have hcz92_0 : wc.cell? ⟨gb154, 0, none⟩ = some (.int .i64 t149) := (blk_cell BK154.out 0).trans rfl
                                have hcz92_1 : wc.cell? ⟨gb154, 1, none⟩ = some (.int .i64 t150) := (blk_cell BK154.out 1).trans rfl
                                have hcz92_2 : wc.cell? ⟨gb154, 2, none⟩ = some (.int .i64 t151) := (blk_cell BK154.out 2).trans rfl
                                have hcz92_3 : wc.cell? ⟨gb154, 3, none⟩ = some (.int .i64 t152) := (blk_cell BK154.out 3).trans rfl
                                have hfz92_0 := blk_frozen BK154.out 0
                                have hfz92_1 := blk_frozen BK154.out 1
                                have hfz92_2 := blk_frozen BK154.out 2
                                have hfz92_3 := blk_frozen BK154.out 3
                                have hcz93_0 : wc.cell? ⟨gb142, 0, none⟩ = some (.int .i64 t139) := (blk_cell BK142.out 0).trans rfl
                                have hcz93_1 : wc.cell? ⟨gb142, 1, none⟩ = some (.int .i64 t140) := (blk_cell BK142.out 1).trans rfl
                                have hfz93_0 := blk_frozen BK142.out 0
                                have hfz93_1 := blk_frozen BK142.out 1
                                go_wp2
                                go_ret
                                exact ⟨by first | rfl | (simp [errW_none, errW_some] <;> rfl) | (simp only [← hji10, ← hji12]; first | rfl | (simp [errW_none, errW_some] <;> rfl)) | (simp [*, errW_none, errW_some] <;> rfl), by repeat (first | (with_reducible first | exact HB.out | apply below_alloc | apply pw_below_drewN | apply below_drew1 | refine below_set ?_ GE138.out | refine below_set ?_ GE142.out | refine below_set ?_ GE154.out) | exact HB.out)⟩
                              · rw [if_neg c87] at H
                                have c87b0 : (t146 == 1) = false := beq_eq_false_iff_ne.mpr c87
                                have c87b1 : (t146 != 1) = true := bne_iff_ne.mpr c87
                                obtain rfl := Option.some.inj H
                                have hnb94 := NB138_142.out
                                have hnc94 := NB142_138.out
                                have hnb95 := NB138_154.out
                                have hnc95 := NB154_138.out
                                have hcz96_0 : wc.cell? ⟨gb138, 0, none⟩ = some (.int .i64 t133) := (blk_cell BK138.out 0).trans rfl
                                have hcz96_1 : wc.cell? ⟨gb138, 1, none⟩ = some (.int .i64 t134) := (blk_cell BK138.out 1).trans rfl
                                have hcz96_2 : wc.cell? ⟨gb138, 2, none⟩ = some (.int .i64 t135) := (blk_cell BK138.out 2).trans rfl
                                have hcz96_3 : wc.cell? ⟨gb138, 3, none⟩ = some (.int .i64 t136) := (blk_cell BK138.out 3).trans rfl
                                have hfz96_0 := blk_frozen BK138.out 0
                                have hfz96_1 := blk_frozen BK138.out 1
                                have hfz96_2 := blk_frozen BK138.out 2
                                have hfz96_3 := blk_frozen BK138.out 3
                                have hnb97 := NB154_142.out
                                have hnc97 := NB142_154.out
                                have hcz98_0 : wc.cell? ⟨gb154, 0, none⟩ = some (.int .i64 t149) := (blk_cell BK154.out 0).trans rfl
                                have hcz98_1 : wc.cell? ⟨gb154, 1, none⟩ = some (.int .i64 t150) := (blk_cell BK154.out 1).trans rfl
                                have hcz98_2 : wc.cell? ⟨gb154, 2, none⟩ = some (.int .i64 t151) := (blk_cell BK154.out 2).trans rfl
                                have hcz98_3 : wc.cell? ⟨gb154, 3, none⟩ = some (.int .i64 t152) := (blk_cell BK154.out 3).trans rfl
                                have hfz98_0 := blk_frozen BK154.out 0
                                have hfz98_1 := blk_frozen BK154.out 1
                                have hfz98_2 := blk_frozen BK154.out 2
                                have hfz98_3 := blk_frozen BK154.out 3
                                have hcz99_0 : wc.cell? ⟨gb142, 0, none⟩ = some (.int .i64 t139) := (blk_cell BK142.out 0).trans rfl
                                have hcz99_1 : wc.cell? ⟨gb142, 1, none⟩ = some (.int .i64 t140) := (blk_cell BK142.out 1).trans rfl
                                have hfz99_0 := blk_frozen BK142.out 0
                                have hfz99_1 := blk_frozen BK142.out 1
                                go_wp2
                                go_ret
                                exact ⟨by first | rfl | (simp [errW_none, errW_some] <;> rfl) | (simp only [← hji10, ← hji12]; first | rfl | (simp [errW_none, errW_some] <;> rfl)) | (simp [*, errW_none, errW_some] <;> rfl), by repeat (first | (with_reducible first | exact HB.out | apply below_alloc | apply pw_below_drewN | apply below_drew1 | refine below_set ?_ GE138.out | refine below_set ?_ GE142.out | refine below_set ?_ GE154.out) | exact HB.out)⟩
                          · rw [if_neg c65] at H
                            have c65b0 : (t149 == 1) = false := beq_eq_false_iff_ne.mpr c65
                            have c65b1 : (t149 != 1) = true := bne_iff_ne.mpr c65
                            obtain rfl := Option.some.inj H
                            have hnb100 := NB138_142.out
                            have hnc100 := NB142_138.out
                            have hnb101 := NB138_154.out
                            have hnc101 := NB154_138.out
                            have hcz102_0 : wc.cell? ⟨gb138, 0, none⟩ = some (.int .i64 t133) := (blk_cell BK138.out 0).trans rfl
                            have hcz102_1 : wc.cell? ⟨gb138, 1, none⟩ = some (.int .i64 t134) := (blk_cell BK138.out 1).trans rfl
                            have hcz102_2 : wc.cell? ⟨gb138, 2, none⟩ = some (.int .i64 t135) := (blk_cell BK138.out 2).trans rfl
                            have hcz102_3 : wc.cell? ⟨gb138, 3, none⟩ = some (.int .i64 t136) := (blk_cell BK138.out 3).trans rfl
                            have hfz102_0 := blk_frozen BK138.out 0
                            have hfz102_1 := blk_frozen BK138.out 1
                            have hfz102_2 := blk_frozen BK138.out 2
                            have hfz102_3 := blk_frozen BK138.out 3
                            have hnb103 := NB154_142.out
                            have hnc103 := NB142_154.out
                            have hcz104_0 : wc.cell? ⟨gb154, 0, none⟩ = some (.int .i64 t149) := (blk_cell BK154.out 0).trans rfl
                            have hcz104_1 : wc.cell? ⟨gb154, 1, none⟩ = some (.int .i64 t150) := (blk_cell BK154.out 1).trans rfl
                            have hcz104_2 : wc.cell? ⟨gb154, 2, none⟩ = some (.int .i64 t151) := (blk_cell BK154.out 2).trans rfl
                            have hcz104_3 : wc.cell? ⟨gb154, 3, none⟩ = some (.int .i64 t152) := (blk_cell BK154.out 3).trans rfl
                            have hfz104_0 := blk_frozen BK154.out 0
                            have hfz104_1 := blk_frozen BK154.out 1
                            have hfz104_2 := blk_frozen BK154.out 2
                            have hfz104_3 := blk_frozen BK154.out 3
                            have hcz105_0 : wc.cell? ⟨gb142, 0, none⟩ = some (.int .i64 t139) := (blk_cell BK142.out 0).trans rfl
                            have hcz105_1 : wc.cell? ⟨gb142, 1, none⟩ = some (.int .i64 t140) := (blk_cell BK142.out 1).trans rfl
                            have hfz105_0 := blk_frozen BK142.out 0
                            have hfz105_1 := blk_frozen BK142.out 1
                            go_wp2
                            go_ret
                            exact ⟨by first | rfl | (simp [errW_none, errW_some] <;> rfl) | (simp only [← hji10, ← hji12]; first | rfl | (simp [errW_none, errW_some] <;> rfl)) | (simp [*, errW_none, errW_some] <;> rfl), by repeat (first | (with_reducible first | exact HB.out | apply below_alloc | apply pw_below_drewN | apply below_drew1 | refine below_set ?_ GE138.out | refine below_set ?_ GE142.out | refine below_set ?_ GE154.out) | exact HB.out)⟩
                        · rw [if_neg c64] at H
                          have c64b0 : (t151 == t139) = false := beq_eq_false_iff_ne.mpr c64
                          have c64b1 : (t151 != t139) = true := bne_iff_ne.mpr c64
                          obtain rfl := Option.some.inj H
                          have hnb106 := NB138_142.out
                          have hnc106 := NB142_138.out
                          have hnb107 := NB138_154.out
                          have hnc107 := NB154_138.out
                          have hcz108_0 : wc.cell? ⟨gb138, 0, none⟩ = some (.int .i64 t133) := (blk_cell BK138.out 0).trans rfl
                          have hcz108_1 : wc.cell? ⟨gb138, 1, none⟩ = some (.int .i64 t134) := (blk_cell BK138.out 1).trans rfl
                          have hcz108_2 : wc.cell? ⟨gb138, 2, none⟩ = some (.int .i64 t135) := (blk_cell BK138.out 2).trans rfl
                          have hcz108_3 : wc.cell? ⟨gb138, 3, none⟩ = some (.int .i64 t136) := (blk_cell BK138.out 3).trans rfl
                          have hfz108_0 := blk_frozen BK138.out 0
                          have hfz108_1 := blk_frozen BK138.out 1
                          have hfz108_2 := blk_frozen BK138.out 2
                          have hfz108_3 := blk_frozen BK138.out 3
                          have hnb109 := NB154_142.out
                          have hnc109 := NB142_154.out
                          have hcz110_0 : wc.cell? ⟨gb154, 0, none⟩ = some (.int .i64 t149) := (blk_cell BK154.out 0).trans rfl
                          have hcz110_1 : wc.cell? ⟨gb154, 1, none⟩ = some (.int .i64 t150) := (blk_cell BK154.out 1).trans rfl
                          have hcz110_2 : wc.cell? ⟨gb154, 2, none⟩ = some (.int .i64 t151) := (blk_cell BK154.out 2).trans rfl
                          have hcz110_3 : wc.cell? ⟨gb154, 3, none⟩ = some (.int .i64 t152) := (blk_cell BK154.out 3).trans rfl
                          have hfz110_0 := blk_frozen BK154.out 0
                          have hfz110_1 := blk_frozen BK154.out 1
                          have hfz110_2 := blk_frozen BK154.out 2
                          have hfz110_3 := blk_frozen BK154.out 3
                          have hcz111_0 : wc.cell? ⟨gb142, 0, none⟩ = some (.int .i64 t139) := (blk_cell BK142.out 0).trans rfl
                          have hcz111_1 : wc.cell? ⟨gb142, 1, none⟩ = some (.int .i64 t140) := (blk_cell BK142.out 1).trans rfl
                          have hfz111_0 := blk_frozen BK142.out 0
                          have hfz111_1 := blk_frozen BK142.out 1
                          go_wp2
                          go_ret
                          exact ⟨by first | rfl | (simp [errW_none, errW_some] <;> rfl) | (simp only [← hji10, ← hji12]; first | rfl | (simp [errW_none, errW_some] <;> rfl)) | (simp [*, errW_none, errW_some] <;> rfl), by repeat (first | (with_reducible first | exact HB.out | apply below_alloc | apply pw_below_drewN | apply below_drew1 | refine below_set ?_ GE138.out | refine below_set ?_ GE142.out | refine below_set ?_ GE154.out) | exact HB.out)⟩
                      · rw [if_neg c63] at H
                        have c63b0 : (t144 == t134) = false := beq_eq_false_iff_ne.mpr c63
                        have c63b1 : (t144 != t134) = true := bne_iff_ne.mpr c63
                        obtain rfl := Option.some.inj H
                        have hnb112 := NB138_142.out
                        have hnc112 := NB142_138.out
                        have hnb113 := NB138_154.out
                        have hnc113 := NB154_138.out
                        have hcz114_0 : wc.cell? ⟨gb138, 0, none⟩ = some (.int .i64 t133) := (blk_cell BK138.out 0).trans rfl
                        have hcz114_1 : wc.cell? ⟨gb138, 1, none⟩ = some (.int .i64 t134) := (blk_cell BK138.out 1).trans rfl
                        have hcz114_2 : wc.cell? ⟨gb138, 2, none⟩ = some (.int .i64 t135) := (blk_cell BK138.out 2).trans rfl
                        have hcz114_3 : wc.cell? ⟨gb138, 3, none⟩ = some (.int .i64 t136) := (blk_cell BK138.out 3).trans rfl
                        have hfz114_0 := blk_frozen BK138.out 0
                        have hfz114_1 := blk_frozen BK138.out 1
                        have hfz114_2 := blk_frozen BK138.out 2
                        have hfz114_3 := blk_frozen BK138.out 3
                        go_wp2
                        go_ret
                        exact ⟨by first | rfl | (simp [errW_none, errW_some] <;> rfl) | (simp only [← hji10, ← hji12]; first | rfl | (simp [errW_none, errW_some] <;> rfl)) | (simp [*, errW_none, errW_some] <;> rfl), by repeat (first | (with_reducible first | exact HB.out | apply below_alloc | apply pw_below_drewN | apply below_drew1 | refine below_set ?_ GE138.out | refine below_set ?_ GE142.out | refine below_set ?_ GE154.out) | exact HB.out)⟩
                    · rw [if_neg c62] at H
                      have c62b0 : decide (0 ≤ t144) = false := decide_eq_false c62
                      clear c62
                      obtain rfl := Option.some.inj H
                      go_wp2
                      go_ret
                      exact ⟨by first | rfl | (simp [errW_none, errW_some] <;> rfl) | (simp only [← hji10, ← hji12]; first | rfl | (simp [errW_none, errW_some] <;> rfl)) | (simp [*, errW_none, errW_some] <;> rfl), by repeat (first | (with_reducible first | exact HB.out | apply below_alloc | apply pw_below_drewN | apply below_drew1 | refine below_set ?_ GE138.out | refine below_set ?_ GE142.out | refine below_set ?_ GE154.out) | exact HB.out)⟩
                  · rw [if_neg c61] at H
                    have c61b0 : (t143 == 1) = false := beq_eq_false_iff_ne.mpr c61
                    have c61b1 : (t143 != 1) = true := bne_iff_ne.mpr c61
                    by_cases c115 : t144 ≥ 0
                    · rw [if_pos c115] at H
                      have c115b0 : decide (0 ≤ t144) = true := decide_eq_true c115
                      clear c115
                      obtain rfl := Option.some.inj H
                      go_wp2
                      go_ret
                      exact ⟨by first | rfl | (simp [errW_none, errW_some] <;> rfl) | (simp only [← hji10, ← hji12]; first | rfl | (simp [errW_none, errW_some] <;> rfl)) | (simp [*, errW_none, errW_some] <;> rfl), by repeat (first | (with_reducible first | exact HB.out | apply below_alloc | apply pw_below_drewN | apply below_drew1 | refine below_set ?_ GE138.out | refine below_set ?_ GE142.out | refine below_set ?_ GE154.out) | exact HB.out)⟩
                    · rw [if_neg c115] at H
                      have c115b0 : decide (0 ≤ t144) = false := decide_eq_false c115
                      clear c115
                      by_cases c116 : t143 = 3
                      · rw [if_pos c116] at H
                        have c116b0 : (t143 == 3) = true := beq_iff_eq.mpr c116
                        have c116b1 : (t143 != 3) = false := bne_eq_false_iff_eq.mpr c116
                        clear c116
                        by_cases c117 : t146 = 3
                        · rw [if_pos c117] at H
                          have c117b0 : (t146 == 3) = true := beq_iff_eq.mpr c117
                          have c117b1 : (t146 != 3) = false := bne_eq_false_iff_eq.mpr c117
                          clear c117
                          by_cases c118 : t146 = 1
                          · rw [if_pos c118] at H
                            have c118b0 : (t146 == 1) = true := beq_iff_eq.mpr c118
                            have c118b1 : (t146 != 1) = false := bne_eq_false_iff_eq.mpr c118
                            clear c118
                            obtain rfl := Option.some.inj H
                            have hnb119 := NB138_142.out
                            have hnc119 := NB142_138.out
                            have hnb120 := NB138_154.out
                            have hnc120 := NB154_138.out
                            have hcz121_0 : wc.cell? ⟨gb138, 0, none⟩ = some (.int .i64 t133) := (blk_cell BK138.out 0).trans rfl
                            have hcz121_1 : wc.cell? ⟨gb138, 1, none⟩ = some (.int .i64 t134) := (blk_cell BK138.out 1).trans rfl
                            have hcz121_2 : wc.cell? ⟨gb138, 2, none⟩ = some (.int .i64 t135) := (blk_cell BK138.out 2).trans rfl
                            have hcz121_3 : wc.cell? ⟨gb138, 3, none⟩ = some (.int .i64 t136) := (blk_cell BK138.out 3).trans rfl
                            have hfz121_0 := blk_frozen BK138.out 0
                            have hfz121_1 := blk_frozen BK138.out 1
                            have hfz121_2 := blk_frozen BK138.out 2
                            have hfz121_3 := blk_frozen BK138.out 3
                            go_wp2
                            go_ret
                            exact ⟨by first | rfl | (simp [errW_none, errW_some] <;> rfl) | (simp only [← hji10, ← hji12]; first | rfl | (simp [errW_none, errW_some] <;> rfl)) | (simp [*, errW_none, errW_some] <;> rfl), by repeat (first | (with_reducible first | exact HB.out | apply below_alloc | apply pw_below_drewN | apply below_drew1 | refine below_set ?_ GE138.out | refine below_set ?_ GE142.out | refine below_set ?_ GE154.out) | exact HB.out)⟩
                          · rw [if_neg c118] at H
                            have c118b0 : (t146 == 1) = false := beq_eq_false_iff_ne.mpr c118
                            have c118b1 : (t146 != 1) = true := bne_iff_ne.mpr c118
                            obtain rfl := Option.some.inj H
                            go_wp2
                            go_ret
                            exact ⟨by first | rfl | (simp [errW_none, errW_some] <;> rfl) | (simp only [← hji10, ← hji12]; first | rfl | (simp [errW_none, errW_some] <;> rfl)) | (simp [*, errW_none, errW_some] <;> rfl), by repeat (first | (with_reducible first | exact HB.out | apply below_alloc | apply pw_below_drewN | apply below_drew1 | refine below_set ?_ GE138.out | refine below_set ?_ GE142.out | refine below_set ?_ GE154.out) | exact HB.out)⟩
                        · rw [if_neg c117] at H
                          have c117b0 : (t146 == 3) = false := beq_eq_false_iff_ne.mpr c117
                          have c117b1 : (t146 != 3) = true := bne_iff_ne.mpr c117
                          obtain rfl := Option.some.inj H
                          go_wp2
                          go_ret
                          exact ⟨by first | rfl | (simp [errW_none, errW_some] <;> rfl) | (simp only [← hji10, ← hji12]; first | rfl | (simp [errW_none, errW_some] <;> rfl)) | (simp [*, errW_none, errW_some] <;> rfl), by repeat (first | (with_reducible first | exact HB.out | apply below_alloc | apply pw_below_drewN | apply below_drew1 | refine below_set ?_ GE138.out | refine below_set ?_ GE142.out | refine below_set ?_ GE154.out) | exact HB.out)⟩
                      · rw [if_neg c116] at H
                        have c116b0 : (t143 == 3) = false := beq_eq_false_iff_ne.mpr c116
                        have c116b1 : (t143 != 3) = true := bne_iff_ne.mpr c116
                        by_cases c122 : t146 = 1
                        · rw [if_pos c122] at H
                          have c122b0 : (t146 == 1) = true := beq_iff_eq.mpr c122
                          have c122b1 : (t146 != 1) = false := bne_eq_false_iff_eq.mpr c122
                          clear c122
                          obtain rfl := Option.some.inj H
                          have hnb123 := NB138_142.out
                          have hnc123 := NB142_138.out
                          have hnb124 := NB138_154.out
                          have hnc124 := NB154_138.out
                          have hcz125_0 : wc.cell? ⟨gb138, 0, none⟩ = some (.int .i64 t133) := (blk_cell BK138.out 0).trans rfl
                          have hcz125_1 : wc.cell? ⟨gb138, 1, none⟩ = some (.int .i64 t134) := (blk_cell BK138.out 1).trans rfl
                          have hcz125_2 : wc.cell? ⟨gb138, 2, none⟩ = some (.int .i64 t135) := (blk_cell BK138.out 2).trans rfl
                          have hcz125_3 : wc.cell? ⟨gb138, 3, none⟩ = some (.int .i64 t136) := (blk_cell BK138.out 3).trans rfl
                          have hfz125_0 := blk_frozen BK138.out 0
                          have hfz125_1 := blk_frozen BK138.out 1
                          have hfz125_2 := blk_frozen BK138.out 2
                          have hfz125_3 := blk_frozen BK138.out 3
                          go_wp2
                          go_ret
                          exact ⟨by first | rfl | (simp [errW_none, errW_some] <;> rfl) | (simp only [← hji10, ← hji12]; first | rfl | (simp [errW_none, errW_some] <;> rfl)) | (simp [*, errW_none, errW_some] <;> rfl), by repeat (first | (with_reducible first | exact HB.out | apply below_alloc | apply pw_below_drewN | apply below_drew1 | refine below_set ?_ GE138.out | refine below_set ?_ GE142.out | refine below_set ?_ GE154.out) | exact HB.out)⟩
                        · rw [if_neg c122] at H
                          have c122b0 : (t146 == 1) = false := beq_eq_false_iff_ne.mpr c122
                          have c122b1 : (t146 != 1) = true := bne_iff_ne.mpr c122
                          obtain rfl := Option.some.inj H
                          go_wp2
                          go_ret
                          exact ⟨by first | rfl | (simp [errW_none, errW_some] <;> rfl) | (simp only [← hji10, ← hji12]; first | rfl | (simp [errW_none, errW_some] <;> rfl)) | (simp [*, errW_none, errW_some] <;> rfl), by repeat (first | (with_reducible first | exact HB.out | apply below_alloc | apply pw_below_drewN | apply below_drew1 | refine below_set ?_ GE138.out | refine below_set ?_ GE142.out | refine below_set ?_ GE154.out) | exact HB.out)⟩
          · rw [if_neg c39] at H
            have c39b0 : (t141 == 0) = false := beq_eq_false_iff_ne.mpr c39
            have c39b1 : (t141 != 0) = true := bne_iff_ne.mpr c39
            obtain rfl := Option.some.inj H
            have hnb126 := NB142_138.out
            have hnc126 := NB138_142.out
            have hcz127_0 : wc.cell? ⟨gb142, 0, none⟩ = some (.int .i64 t139) := (blk_cell BK142.out 0).trans rfl
            have hcz127_1 : wc.cell? ⟨gb142, 1, none⟩ = some (.int .i64 t140) := (blk_cell BK142.out 1).trans rfl
            have hfz127_0 := blk_frozen BK142.out 0
            have hfz127_1 := blk_frozen BK142.out 1
            go_wp2
            go_ret
            exact ⟨by first | rfl | (simp [errW_none, errW_some] <;> rfl) | (simp only [← hji10, ← hji12]; first | rfl | (simp [errW_none, errW_some] <;> rfl)) | (simp [*, errW_none, errW_some] <;> rfl), by repeat (first | (with_reducible first | exact HB.out | apply below_alloc | apply pw_below_drewN | apply below_drew1 | refine below_set ?_ GE138.out | refine below_set ?_ GE142.out) | exact HB.out)⟩
  · replace c6 := Bool.eq_false_iff.mpr c6
    subst c6
    have H1 : (some false) = some r := by rw [if_neg (show ¬ (false = true) by decide)] at H; exact H
    clear H
    have H := H1
    clear H1
    obtain rfl := Option.some.inj H
    go_enter Try.func5, Try.ntmps5
    go_wp2_with (first | ((with_reducible refine gate_callee (f := 13) rfl ?_); refine goesL_ (some 25) rfl rfl Try.func13 (by kernel_rfl) rfl #[] rfl (by (try simp only [List.map_toArray, List.map_cons, List.map_nil]); first | done | rfl | (simp only [List.length_drop, List.length_take]; rfl)) ?_; (with_reducible refine (dialtonelaw14_sane.calls  false _ A5.out).mono ?_); rintro e w128 ⟨rfl, hb⟩; refine ⟨_, rfl, ?_⟩; have n0_ := Aside0.mk (below_step (by repeat (first | (with_reducible first | exact HB.out | apply below_alloc | apply pw_below_drewN | apply below_drew1) | exact HB.out)) hb); clear HB; have HB := n0_; clear n0_; (try clear hb); (try clear hb2); (try clear hk); (try clear hi)))
    go_ret
    exact ⟨by first | rfl | (simp [errW_none, errW_some] <;> rfl) | (simp [*, errW_none, errW_some] <;> rfl), by repeat (first | (with_reducible first | exact HB.out | apply below_alloc | apply pw_below_drewN | apply below_drew1) | exact HB.out)⟩

end Go.Proofs.Yteilkigdlkeiaaa.Q
