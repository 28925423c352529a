/- Printed out of the translation by a program: functions and their contracts. -/
import Derived.Test.YteilkigdlkeiaaaQ0
import Derived.Test.YteilkigdlkeiaaaQ1
import Derived.Test.YteilkigdlkeiaaaQ12
import Derived.Test.YteilkigdlkeiaaaQ5
import Derived.Test.YteilkigdlkeiaaaQ6
import Derived.Test.YteilkigdlkeiaaaEx
namespace Go.Proofs.Yteilkigdlkeiaaa.Q
attribute [local go_sem] Go.Proofs.Yteilkigdlkeiaaa.St.cell_map Option.map_some
open Go.RowKit Go.Proofs.YteilkigdlkeiaaaW.PrintWords Go.Proofs.YteilkigdlkeiaaaW.PrintLast Go.Proofs.YteilkigdlkeiaaaW.PrintMore
attribute [local go_sem] max2_int min2_int max_two min_two max_three min_three max_four min_four   -- for this text's walks alone
set_option linter.unusedVariables false
set_option linter.unusedSimpArgs false

attribute [local go_sem high] eqA26
/-! ### dialtonelaw14_LifeRestores: function 10 -/
mutual
def dialtonelaw14_LifeRestores.j0 : Nat → Int → List (S54) → List (S54) → Int → Int → Bool → Int → Int → Int → Int → Int → Int → Int → Int → Int → Int → Int → Int → Int → Int → Option (Bool)
  | 0, _, _, _, _, _, _, _, _, _, _, _, _, _, _, _, _, _, _, _, _ => none
  | k + 1, x3, x9, x15, x17, x18, x79, x137000, x137001, x137002, x137003, x139000, x139001, x139002, x141000, x141001, x141002, x160000, x160001, x160002, x160003 => if x79 = true then (if x18 = 140 then (some (x17 == (x9.length : Int))) else (some false)) else (if x18 = 0 then (dialtonelaw14_LifeRestores.j1 k x3 x9 x15 (!(x160000 == 1) || (!(x160001 == x137001) || (!(x160002 == x137002) || (!(x160003 == x141001))))) x137000 x137001 x137002 x137003 x139000 x139001 x139002 x141000 x141001 x141002) else (dialtonelaw14_LifeRestores.j1 k x3 x9 x15 true x137000 x137001 x137002 x137003 x139000 x139001 x139002 x141000 x141001 x141002))
def dialtonelaw14_LifeRestores.j1 : Nat → Int → List (S54) → List (S54) → Bool → Int → Int → Int → Int → Int → Int → Int → Int → Int → Int → Option (Bool)
  | 0, _, _, _, _, _, _, _, _, _, _, _, _, _, _ => none
  | k + 1, x3, x9, x15, x99, x137000, x137001, x137002, x137003, x139000, x139001, x139002, x141000, x141001, x141002 => if x99 = true then (some false) else ((dialtoneref14_Time.f x9 x3).bind fun t161 => ((life_Keep.f x9 t161).bind fun bt162 => (if bt162.2.2 = 0 then (if bt162.1 = x137002 then (dialtonelaw14_LifeRestores.j2 k x9 x15 (decide (bt162.2.1 ≤ x141001)) x137000 x137001 x137002 x137003 x139000 x139001 x139002 x141000 x141001 x141002 bt162.1 bt162.2.1) else (dialtonelaw14_LifeRestores.j2 k x9 x15 false x137000 x137001 x137002 x137003 x139000 x139001 x139002 x141000 x141001 x141002 bt162.1 bt162.2.1)) else (dialtonelaw14_LifeRestores.j2 k x9 x15 false x137000 x137001 x137002 x137003 x139000 x139001 x139002 x141000 x141001 x141002 bt162.1 bt162.2.1))))
def dialtonelaw14_LifeRestores.j2 : Nat → List (S54) → List (S54) → Bool → Int → Int → Int → Int → Int → Int → Int → Int → Int → Int → Int → Int → Option (Bool)
  | 0, _, _, _, _, _, _, _, _, _, _, _, _, _, _, _ => none
  | k + 1, x9, x15, x123, x137000, x137001, x137002, x137003, x139000, x139001, x139002, x141000, x141001, x141002, x166000, x166001 => if x123 = true then ((life_Fate.f x15 x166000 x166001 x141001).bind fun bt166 => (if bt166.2.2 = 0 then (if bt166.1 = 1 then (if bt166.2.1 = x137001 then (dialtonelaw14_LifeRestores.j3 k x9 x139000 x139001 x139002 x141000 x141001 x141002) else (some false)) else (some false)) else (if x166001 < x139001 then (some false) else (dialtonelaw14_LifeRestores.j3 k x9 x139000 x139001 x139002 x141000 x141001 x141002)))) else (dialtonelaw14_LifeRestores.j3 k x9 x139000 x139001 x139002 x141000 x141001 x141002)
def dialtonelaw14_LifeRestores.j3 : Nat → List (S54) → Int → Int → Int → Int → Int → Int → Option (Bool)
  | 0, _, _, _, _, _, _, _ => none
  | k + 1, x9, x139000, x139001, x139002, x141000, x141001, x141002 => if (wrap64 (x139001 + 2592000)) > 10000000 then (some true) else ((some (([] : List (S54)) : List (S54))).bind fun y170 => (if y170.length + x9.length < 5864062014805 then ((some (y170 ++ x9 : List (S54))).bind fun y173 => ((some (([(⟨x139000, x139001, x139002⟩ : S54), (⟨7, wrap64 (x139001 + 2592000), (-1)⟩ : S54)] : List (S54)) : List (S54))).bind fun y176 => (if y173.length + y176.length < 5864062014805 then ((some (y173 ++ y176 : List (S54))).bind fun y179 => ((life_Run.f y179).bind fun bt182 => (if y179.length < 5864062014805 then ((life_Run.f (y179 ++ [(⟨x141000, wrap64 (x139001 + 2592000), x141002⟩ : S54)])).bind fun bt192 => (if bt182.2.2.2.2.2 = 0 then (if bt192.2.2.2.2.2 = 140 then (some (bt192.2.2.2.2.1 == (y179.length : Int))) else (some false)) else (some false))) else (none)))) else (none)))) else (none)))
end
def dialtonelaw14_LifeRestores.f (k : Nat) (l0 : List (S23)) (a1 : Int) (a2 : Int) (a3 : Int) : Option (Bool) := (dialtonelaw14_sane.f).bind fun t126 => (if t126 = true then ((dialtoneref14_Made.f k l0).bind fun t127 => ((life_Run.f t127).bind fun bt130 => (if bt130.2.2.2.2.2 = 0 then ((dialtonelaw14_pick.f a1 100).bind fun t137 => ((dialtonelaw14_pick.f a2 3000000).bind fun t139 => ((some (([] : List (S54)) : List (S54))).bind fun y141 => (if y141.length + t127.length < 5864062014805 then ((some (y141 ++ t127 : List (S54))).bind fun y144 => ((some (([(⟨5, mn (wrap64 (bt130.2.2.2.1 + t137)) 10000000, (-1)⟩ : S54), (⟨6, mn (wrap64 ((mn (wrap64 (bt130.2.2.2.1 + t137)) 10000000) + t139)) 10000000, (-1)⟩ : S54)] : List (S54)) : List (S54))).bind fun y147 => (if y144.length + y147.length < 5864062014805 then ((some (y144 ++ y147 : List (S54))).bind fun y150 => ((life_Run.f y150).bind fun bt153 => (if bt130.1 = 1 then (dialtonelaw14_LifeRestores.j0 k a3 t127 y150 bt153.2.2.2.2.1 bt153.2.2.2.2.2 false bt130.1 bt130.2.1 bt130.2.2.1 bt130.2.2.2.1 5 (mn (wrap64 (bt130.2.2.2.1 + t137)) 10000000) (-1) 6 (mn (wrap64 ((mn (wrap64 (bt130.2.2.2.1 + t137)) 10000000) + t139)) 10000000) (-1) bt153.1 bt153.2.1 bt153.2.2.1 bt153.2.2.2.1) else (dialtonelaw14_LifeRestores.j0 k a3 t127 y150 bt153.2.2.2.2.1 bt153.2.2.2.2.2 (bt130.1 != 2) bt130.1 bt130.2.1 bt130.2.2.1 bt130.2.2.2.1 5 (mn (wrap64 (bt130.2.2.2.1 + t137)) 10000000) (-1) 6 (mn (wrap64 ((mn (wrap64 (bt130.2.2.2.1 + t137)) 10000000) + t139)) 10000000) (-1) bt153.1 bt153.2.1 bt153.2.2.1 bt153.2.2.2.1)))) else (none)))) else (none))))) else (some false)))) else (some false))
theorem dialtonelaw14_LifeRestores.mono_l : ∀ k, (∀ y0 y1 y2 y3 y4 y5 y6 y7 y8 y9 y10 y11 y12 y13 y14 y15 y16 y17 y18 y19, LeO (dialtonelaw14_LifeRestores.j0 k y0 y1 y2 y3 y4 y5 y6 y7 y8 y9 y10 y11 y12 y13 y14 y15 y16 y17 y18 y19) (dialtonelaw14_LifeRestores.j0 (k + 1) y0 y1 y2 y3 y4 y5 y6 y7 y8 y9 y10 y11 y12 y13 y14 y15 y16 y17 y18 y19)) ∧ (∀ y0 y1 y2 y3 y4 y5 y6 y7 y8 y9 y10 y11 y12 y13, LeO (dialtonelaw14_LifeRestores.j1 k y0 y1 y2 y3 y4 y5 y6 y7 y8 y9 y10 y11 y12 y13) (dialtonelaw14_LifeRestores.j1 (k + 1) y0 y1 y2 y3 y4 y5 y6 y7 y8 y9 y10 y11 y12 y13)) ∧ (∀ y0 y1 y2 y3 y4 y5 y6 y7 y8 y9 y10 y11 y12 y13 y14, LeO (dialtonelaw14_LifeRestores.j2 k y0 y1 y2 y3 y4 y5 y6 y7 y8 y9 y10 y11 y12 y13 y14) (dialtonelaw14_LifeRestores.j2 (k + 1) y0 y1 y2 y3 y4 y5 y6 y7 y8 y9 y10 y11 y12 y13 y14)) ∧ (∀ y0 y1 y2 y3 y4 y5 y6, LeO (dialtonelaw14_LifeRestores.j3 k y0 y1 y2 y3 y4 y5 y6) (dialtonelaw14_LifeRestores.j3 (k + 1) y0 y1 y2 y3 y4 y5 y6))
  | 0 => ⟨fun _ _ _ _ _ _ _ _ _ _ _ _ _ _ _ _ _ _ _ _ r h => by simp [dialtonelaw14_LifeRestores.j0] at h, fun _ _ _ _ _ _ _ _ _ _ _ _ _ _ r h => by simp [dialtonelaw14_LifeRestores.j1] at h, fun _ _ _ _ _ _ _ _ _ _ _ _ _ _ _ r h => by simp [dialtonelaw14_LifeRestores.j2] at h, fun _ _ _ _ _ _ _ r h => by simp [dialtonelaw14_LifeRestores.j3] at h⟩
  | k + 1 => by
    obtain ⟨ih0, ih1, ih2, ih3⟩ := dialtonelaw14_LifeRestores.mono_l k
    refine ⟨?_, ?_, ?_, ?_⟩
    · intro y0 y1 y2 y3 y4 y5 y6 y7 y8 y9 y10 y11 y12 y13 y14 y15 y16 y17 y18 y19
      unfold dialtonelaw14_LifeRestores.j0
      repeat' first
      | (with_reducible exact ih0 _ _ _ _ _ _ _ _ _ _ _ _ _ _ _ _ _ _ _ _)
      | (with_reducible exact ih1 _ _ _ _ _ _ _ _ _ _ _ _ _ _)
      | (with_reducible exact ih2 _ _ _ _ _ _ _ _ _ _ _ _ _ _ _)
      | (with_reducible exact ih3 _ _ _ _ _ _ _)
      | (with_reducible exact dialtoneref14_Made.mono _ _)
      | (with_reducible exact LeO.refl _)
      | (with_reducible exact LeO.none _)
      | (with_reducible refine LeO.ite ?_ ?_)
      | (with_reducible refine LeO.bind ?_ (fun _ => ?_))
      | exact ih0 _ _ _ _ _ _ _ _ _ _ _ _ _ _ _ _ _ _ _ _
      | exact ih1 _ _ _ _ _ _ _ _ _ _ _ _ _ _
      | exact ih2 _ _ _ _ _ _ _ _ _ _ _ _ _ _ _
      | exact ih3 _ _ _ _ _ _ _
      | exact dialtoneref14_Made.mono _ _
      | exact LeO.none _
      | refine LeO.ite ?_ ?_
      | refine LeO.bind ?_ (fun _ => ?_)
    · intro y0 y1 y2 y3 y4 y5 y6 y7 y8 y9 y10 y11 y12 y13
      unfold dialtonelaw14_LifeRestores.j1
      repeat' first
      | (with_reducible exact ih0 _ _ _ _ _ _ _ _ _ _ _ _ _ _ _ _ _ _ _ _)
      | (with_reducible exact ih1 _ _ _ _ _ _ _ _ _ _ _ _ _ _)
      | (with_reducible exact ih2 _ _ _ _ _ _ _ _ _ _ _ _ _ _ _)
      | (with_reducible exact ih3 _ _ _ _ _ _ _)
      | (with_reducible exact dialtoneref14_Made.mono _ _)
      | (with_reducible exact LeO.refl _)
      | (with_reducible exact LeO.none _)
      | (with_reducible refine LeO.ite ?_ ?_)
      | (with_reducible refine LeO.bind ?_ (fun _ => ?_))
      | exact ih0 _ _ _ _ _ _ _ _ _ _ _ _ _ _ _ _ _ _ _ _
      | exact ih1 _ _ _ _ _ _ _ _ _ _ _ _ _ _
      | exact ih2 _ _ _ _ _ _ _ _ _ _ _ _ _ _ _
      | exact ih3 _ _ _ _ _ _ _
      | exact dialtoneref14_Made.mono _ _
      | exact LeO.none _
      | refine LeO.ite ?_ ?_
      | refine LeO.bind ?_ (fun _ => ?_)
    · intro y0 y1 y2 y3 y4 y5 y6 y7 y8 y9 y10 y11 y12 y13 y14
      unfold dialtonelaw14_LifeRestores.j2
      repeat' first
      | (with_reducible exact ih0 _ _ _ _ _ _ _ _ _ _ _ _ _ _ _ _ _ _ _ _)
      | (with_reducible exact ih1 _ _ _ _ _ _ _ _ _ _ _ _ _ _)
      | (with_reducible exact ih2 _ _ _ _ _ _ _ _ _ _ _ _ _ _ _)
      | (with_reducible exact ih3 _ _ _ _ _ _ _)
      | (with_reducible exact dialtoneref14_Made.mono _ _)
      | (with_reducible exact LeO.refl _)
      | (with_reducible exact LeO.none _)
      | (with_reducible refine LeO.ite ?_ ?_)
      | (with_reducible refine LeO.bind ?_ (fun _ => ?_))
      | exact ih0 _ _ _ _ _ _ _ _ _ _ _ _ _ _ _ _ _ _ _ _
      | exact ih1 _ _ _ _ _ _ _ _ _ _ _ _ _ _
      | exact ih2 _ _ _ _ _ _ _ _ _ _ _ _ _ _ _
      | exact ih3 _ _ _ _ _ _ _
      | exact dialtoneref14_Made.mono _ _
      | exact LeO.none _
      | refine LeO.ite ?_ ?_
      | refine LeO.bind ?_ (fun _ => ?_)
    · intro y0 y1 y2 y3 y4 y5 y6
      unfold dialtonelaw14_LifeRestores.j3
      repeat' first
      | (with_reducible exact ih0 _ _ _ _ _ _ _ _ _ _ _ _ _ _ _ _ _ _ _ _)
      | (with_reducible exact ih1 _ _ _ _ _ _ _ _ _ _ _ _ _ _)
      | (with_reducible exact ih2 _ _ _ _ _ _ _ _ _ _ _ _ _ _ _)
      | (with_reducible exact ih3 _ _ _ _ _ _ _)
      | (with_reducible exact dialtoneref14_Made.mono _ _)
      | (with_reducible exact LeO.refl _)
      | (with_reducible exact LeO.none _)
      | (with_reducible refine LeO.ite ?_ ?_)
      | (with_reducible refine LeO.bind ?_ (fun _ => ?_))
      | exact ih0 _ _ _ _ _ _ _ _ _ _ _ _ _ _ _ _ _ _ _ _
      | exact ih1 _ _ _ _ _ _ _ _ _ _ _ _ _ _
      | exact ih2 _ _ _ _ _ _ _ _ _ _ _ _ _ _ _
      | exact ih3 _ _ _ _ _ _ _
      | exact dialtoneref14_Made.mono _ _
      | exact LeO.none _
      | refine LeO.ite ?_ ?_
      | refine LeO.bind ?_ (fun _ => ?_)
theorem dialtonelaw14_LifeRestores.mono : ∀ a0 a1 a2 a3 k, LeO (dialtonelaw14_LifeRestores.f k a0 a1 a2 a3) (dialtonelaw14_LifeRestores.f (k + 1) a0 a1 a2 a3) := by
  intro a0 a1 a2 a3 k
  obtain ⟨ih0, ih1, ih2, ih3⟩ := dialtonelaw14_LifeRestores.mono_l k
  unfold dialtonelaw14_LifeRestores.f
  repeat' first
      | (with_reducible exact ih0 _ _ _ _ _ _ _ _ _ _ _ _ _ _ _ _ _ _ _ _)
      | (with_reducible exact ih1 _ _ _ _ _ _ _ _ _ _ _ _ _ _)
      | (with_reducible exact ih2 _ _ _ _ _ _ _ _ _ _ _ _ _ _ _)
      | (with_reducible exact ih3 _ _ _ _ _ _ _)
      | (with_reducible exact dialtoneref14_Made.mono _ _)
      | (with_reducible exact LeO.refl _)
      | (with_reducible exact LeO.none _)
      | (with_reducible refine LeO.ite ?_ ?_)
      | (with_reducible refine LeO.bind ?_ (fun _ => ?_))
      | exact ih0 _ _ _ _ _ _ _ _ _ _ _ _ _ _ _ _ _ _ _ _
      | exact ih1 _ _ _ _ _ _ _ _ _ _ _ _ _ _
      | exact ih2 _ _ _ _ _ _ _ _ _ _ _ _ _ _ _
      | exact ih3 _ _ _ _ _ _ _
      | exact dialtoneref14_Made.mono _ _
      | exact LeO.none _
      | refine LeO.ite ?_ ?_
      | refine LeO.bind ?_ (fun _ => ?_)
def dialtonelaw14_LifeRestores.T7 : Bool × List (List Nat × List Nat) := (true, [([], []), ([0], [0]), ([], []), ([2], [2]), ([1, 3], [1, 3]), ([4], [4]), ([5], [5]), ([], []), ([7, 6, 3, 0, 1, 2, 3, 4, 5, 6, 7], [6, 7])])
def dialtonelaw14_LifeRestores.B7 : List Nat := [0, 1, 0, 4, 15, 31, 63, 0, 255]
theorem dialtonelaw14_LifeRestores.tab7 : rtab .any (opsOf Try.f10 7) = dialtonelaw14_LifeRestores.T7 := by kernel_rfl
theorem dialtonelaw14_LifeRestores.bits7 : waitsOk dialtonelaw14_LifeRestores.T7.2 dialtonelaw14_LifeRestores.B7 = true := by kernel_rfl
def dialtonelaw14_LifeRestores.T8 : Bool × List (List Nat × List Nat) := (true, [([], []), ([0], [0]), ([], []), ([2], [2]), ([1, 3], [1, 3]), ([4], [4]), ([5], [5]), ([], []), ([7, 6, 3, 0, 1, 2, 3, 4, 5, 6, 7], [6, 7])])
def dialtonelaw14_LifeRestores.B8 : List Nat := [0, 1, 0, 4, 15, 31, 63, 0, 255]
theorem dialtonelaw14_LifeRestores.tab8 : rtab .any (opsOf Try.f10 8) = dialtonelaw14_LifeRestores.T8 := by kernel_rfl
theorem dialtonelaw14_LifeRestores.bits8 : waitsOk dialtonelaw14_LifeRestores.T8.2 dialtonelaw14_LifeRestores.B8 = true := by kernel_rfl
def dialtonelaw14_LifeRestores.T9 : Bool × List (List Nat × List Nat) := (true, [([], []), ([], []), ([0, 1], [0, 1]), ([], []), ([], []), ([3, 4], [3, 4]), ([2, 5, 2], [2, 5]), ([6, 6, 0, 1, 2, 3, 4, 5, 6], [6])])
def dialtonelaw14_LifeRestores.B9 : List Nat := [0, 0, 3, 0, 0, 24, 63, 127]
theorem dialtonelaw14_LifeRestores.tab9 : rtab .any (opsOf Try.f10 9) = dialtonelaw14_LifeRestores.T9 := by kernel_rfl
theorem dialtonelaw14_LifeRestores.bits9 : waitsOk dialtonelaw14_LifeRestores.T9.2 dialtonelaw14_LifeRestores.B9 = true := by kernel_rfl
def dialtonelaw14_LifeRestores.T26 : Bool × List (List Nat × List Nat) := (true, [([], []), ([], []), ([0, 1], [0, 1]), ([], []), ([], []), ([3, 4], [3, 4]), ([2, 5, 2], [2, 5]), ([6, 6, 0, 1, 2, 3, 4, 5, 6], [6])])
def dialtonelaw14_LifeRestores.B26 : List Nat := [0, 0, 3, 0, 0, 24, 63, 127]
theorem dialtonelaw14_LifeRestores.tab26 : rtab .any (opsOf Try.f10 26) = dialtonelaw14_LifeRestores.T26 := by kernel_rfl
theorem dialtonelaw14_LifeRestores.bits26 : waitsOk dialtonelaw14_LifeRestores.T26.2 dialtonelaw14_LifeRestores.B26 = true := by kernel_rfl

end Go.Proofs.Yteilkigdlkeiaaa.Q
