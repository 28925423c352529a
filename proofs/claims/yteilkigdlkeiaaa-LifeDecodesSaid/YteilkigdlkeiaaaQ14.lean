/- Printed out of the translation by a program: functions and their contracts. -/
import Derived.Test.YteilkigdlkeiaaaQ0
import Derived.Test.YteilkigdlkeiaaaQ3
import Derived.Test.YteilkigdlkeiaaaQ5
import Derived.Test.YteilkigdlkeiaaaQ12
import Derived.Test.YteilkigdlkeiaaaEx
namespace Go.Proofs.Yteilkigdlkeiaaa.Q
attribute [local go_sem] Go.Proofs.Yteilkigdlkeiaaa.St.cell_map Option.map_some
open Go.RowKit Go.Proofs.YteilkigdlkeiaaaW.PrintWords Go.Proofs.YteilkigdlkeiaaaW.PrintLast Go.Proofs.YteilkigdlkeiaaaW.PrintMore
attribute [local go_sem] max2_int min2_int max_two min_two max_three min_three max_four min_four   -- for this text's walks alone
set_option linter.unusedVariables false
set_option linter.unusedSimpArgs false

attribute [local go_sem high] eqA54
/-! ### dialtonelaw14_LifeDecodes: function 12 -/
mutual
def dialtonelaw14_LifeDecodes.j0 : Nat → ByteArray → Int → Int → ByteArray → ByteArray → Bool → Option (Bool)
  | 0, _, _, _, _, _, _ => none
  | k + 1, x3, x4, x5, x16, x18, x95 => if x95 = true then (some false) else (if x16.toList = x18.toList then (dialtonelaw14_LifeDecodes.j1 k x3 x4 x5 x16 false) else (if (x16.size : Int) ≤ (x18.size : Int) then (if 0 ≤ (x16.size : Int) then (if (x18.extract 0 x16.size).toList = x16.toList then (dialtonelaw14_LifeDecodes.j1 k x3 x4 x5 x16 true) else (if (x18.size : Int) ≤ (x16.size : Int) then (if 0 ≤ (x18.size : Int) then (dialtonelaw14_LifeDecodes.j1 k x3 x4 x5 x16 ((x16.extract 0 x18.size).toList == x18.toList)) else (none)) else (dialtonelaw14_LifeDecodes.j1 k x3 x4 x5 x16 false))) else (none)) else (if (x18.size : Int) ≤ (x16.size : Int) then (if 0 ≤ (x18.size : Int) then (dialtonelaw14_LifeDecodes.j1 k x3 x4 x5 x16 ((x16.extract 0 x18.size).toList == x18.toList)) else (none)) else (dialtonelaw14_LifeDecodes.j1 k x3 x4 x5 x16 false))))
def dialtonelaw14_LifeDecodes.j1 : Nat → ByteArray → Int → Int → ByteArray → Bool → Option (Bool)
  | 0, _, _, _, _, _ => none
  | k + 1, x3, x4, x5, x16, x128 => if x128 = true then (some false) else ((dialtonelaw14_pick.f x4 (x16.size : Int)).bind fun t300 => (if 0 ≤ (mn (x3.size : Int) 30) then (if (mn (x3.size : Int) 30) ≤ (x3.size : Int) then (if 0 ≤ t300 then (if t300 ≤ (x16.size : Int) then ((some (([x5] : List Int) : List Int)).bind fun y301 => (if (x16.extract 0 (t300 : Int).toNat).size + (strOfNums y301).size ≤ 9223372036854775807 then (if 0 ≤ (wrap64 (t300 + 1)) then (if (wrap64 (t300 + 1)) ≤ (x16.size : Int) then (if ((x16.extract 0 (t300 : Int).toNat) ++ (strOfNums y301)).size + (x16.extract ((wrap64 (t300 + 1)) : Int).toNat x16.size).size ≤ 9223372036854775807 then (if x16.size + (x3.extract 0 ((mn (x3.size : Int) 30) : Int).toNat).size ≤ 9223372036854775807 then ((some (([x3.extract 0 ((mn (x3.size : Int) 30) : Int).toNat, ((x16.extract 0 (t300 : Int).toNat) ++ (strOfNums y301)) ++ (x16.extract ((wrap64 (t300 + 1)) : Int).toNat x16.size), x16 ++ (x3.extract 0 ((mn (x3.size : Int) 30) : Int).toNat)] : List ByteArray) : List ByteArray)).bind fun y304 => (dialtonelaw14_LifeDecodes.l0 k y304 (y304.length : Int) 0)) else (none)) else (none)) else (none)) else (none)) else (none))) else (none)) else (none)) else (none)) else (none)))
def dialtonelaw14_LifeDecodes.l0 : Nat → List ByteArray → Int → Int → Option (Bool)
  | 0, _, _, _ => none
  | k + 1, x157, x158, x159 => if x159 < x158 then (if 0 ≤ x159 then (if x159 < (x157.length : Int) then ((life_Decode.f (rdOf ByteArray.empty x157 x159)).bind fun bt308 => (if bt308.2.2.2 = 0 then ((life_Encode.f bt308.1 bt308.2.1 bt308.2.2.1).bind fun bt313 => (if bt313.2 = 0 then (if bt313.1.toList = (rdOf ByteArray.empty x157 x159).toList then ((life_Formed.f bt308.1 bt308.2.1 bt308.2.2.1).bind fun t315 => (if t315 = true then (dialtonelaw14_LifeDecodes.l0 k x157 x158 (wrap64 (x159 + 1))) else (some false))) else (some false)) else (some false))) else (dialtonelaw14_LifeDecodes.l0 k x157 x158 (wrap64 (x159 + 1))))) else (none)) else (none)) else (some true)
end
def dialtonelaw14_LifeDecodes.f (k : Nat) (l0 : List (S23)) (a1 : Int) (a2 : Int) (a3 : ByteArray) (a4 : Int) (a5 : Int) : Option (Bool) := (dialtonelaw14_sane.f).bind fun t277 => (if t277 = true then ((dialtoneref14_Made.f k l0).bind fun t278 => ((dialtonelaw14_pick.f a4 10000001).bind fun t281 => (if t278.length < 5864062014805 then ((some (t278 ++ [(⟨5, t281, (-1)⟩ : S54)] : List (S54))).bind fun y282 => ((dialtonelaw14_pick.f a1 (y282.length : Int)).bind fun t285 => (if 0 ≤ t285 then (if t285 < (y282.length : Int) then ((dialtonelaw14_pick.f a2 (y282.length : Int)).bind fun t288 => (if 0 ≤ t288 then (if t288 < (y282.length : Int) then ((life_Encode.f ((rd_T54 y282 t285).f0) ((rd_T54 y282 t285).f1) ((rd_T54 y282 t285).f2)).bind fun bt291 => ((life_Encode.f ((rd_T54 y282 t288).f0) ((rd_T54 y282 t288).f1) ((rd_T54 y282 t288).f2)).bind fun bt293 => ((life_Decode.f bt291.1).bind fun bt295 => (if bt291.2 = 0 then (if bt293.2 = 0 then (if bt295.2.2.2 = 0 then (if (!(bt295.1 == ((rd_T54 y282 t285).f0)) || (!(bt295.2.1 == ((rd_T54 y282 t285).f1)) || (!(bt295.2.2.1 == ((rd_T54 y282 t285).f2))))) = true then (dialtonelaw14_LifeDecodes.j0 k a3 a4 a5 bt291.1 bt293.1 true) else (if bt291.1.toList = bt293.1.toList then (if ((((rd_T54 y282 t285).f0) == ((rd_T54 y282 t288).f0) && (((rd_T54 y282 t285).f1) == ((rd_T54 y282 t288).f1) && (((rd_T54 y282 t285).f2) == ((rd_T54 y282 t288).f2)))) = true) then (dialtonelaw14_LifeDecodes.j0 k a3 a4 a5 bt291.1 bt293.1 ((bt291.1.size : Int) == 0)) else (dialtonelaw14_LifeDecodes.j0 k a3 a4 a5 bt291.1 bt293.1 true)) else (if (((rd_T54 y282 t285).f0) == ((rd_T54 y282 t288).f0) && (((rd_T54 y282 t285).f1) == ((rd_T54 y282 t288).f1) && (((rd_T54 y282 t285).f2) == ((rd_T54 y282 t288).f2)))) = true then (dialtonelaw14_LifeDecodes.j0 k a3 a4 a5 bt291.1 bt293.1 true) else (dialtonelaw14_LifeDecodes.j0 k a3 a4 a5 bt291.1 bt293.1 ((bt291.1.size : Int) == 0))))) else (dialtonelaw14_LifeDecodes.j0 k a3 a4 a5 bt291.1 bt293.1 true)) else (dialtonelaw14_LifeDecodes.j0 k a3 a4 a5 bt291.1 bt293.1 true)) else (dialtonelaw14_LifeDecodes.j0 k a3 a4 a5 bt291.1 bt293.1 true))))) else (none)) else (none))) else (none)) else (none)))) else (none)))) else (some false))
theorem dialtonelaw14_LifeDecodes.mono_l : ∀ k, (∀ y0 y1 y2 y3 y4 y5, LeO (dialtonelaw14_LifeDecodes.j0 k y0 y1 y2 y3 y4 y5) (dialtonelaw14_LifeDecodes.j0 (k + 1) y0 y1 y2 y3 y4 y5)) ∧ (∀ y0 y1 y2 y3 y4, LeO (dialtonelaw14_LifeDecodes.j1 k y0 y1 y2 y3 y4) (dialtonelaw14_LifeDecodes.j1 (k + 1) y0 y1 y2 y3 y4)) ∧ (∀ y0 y1 y2, LeO (dialtonelaw14_LifeDecodes.l0 k y0 y1 y2) (dialtonelaw14_LifeDecodes.l0 (k + 1) y0 y1 y2))
  | 0 => ⟨fun _ _ _ _ _ _ r h => by simp [dialtonelaw14_LifeDecodes.j0] at h, fun _ _ _ _ _ r h => by simp [dialtonelaw14_LifeDecodes.j1] at h, fun _ _ _ r h => by simp [dialtonelaw14_LifeDecodes.l0] at h⟩
  | k + 1 => by
    obtain ⟨ih0, ih1, ih2⟩ := dialtonelaw14_LifeDecodes.mono_l k
    refine ⟨?_, ?_, ?_⟩
    · intro y0 y1 y2 y3 y4 y5
      unfold dialtonelaw14_LifeDecodes.j0
      repeat' first
      | (with_reducible exact ih0 _ _ _ _ _ _)
      | (with_reducible exact ih1 _ _ _ _ _)
      | (with_reducible exact ih2 _ _ _)
      | (with_reducible exact dialtoneref14_Made.mono _ _)
      | (with_reducible exact LeO.refl _)
      | (with_reducible exact LeO.none _)
      | (with_reducible refine LeO.ite ?_ ?_)
      | (with_reducible refine LeO.bind ?_ (fun _ => ?_))
      | exact ih0 _ _ _ _ _ _
      | exact ih1 _ _ _ _ _
      | exact ih2 _ _ _
      | exact dialtoneref14_Made.mono _ _
      | exact LeO.none _
      | refine LeO.ite ?_ ?_
      | refine LeO.bind ?_ (fun _ => ?_)
    · intro y0 y1 y2 y3 y4
      unfold dialtonelaw14_LifeDecodes.j1
      repeat' first
      | (with_reducible exact ih0 _ _ _ _ _ _)
      | (with_reducible exact ih1 _ _ _ _ _)
      | (with_reducible exact ih2 _ _ _)
      | (with_reducible exact dialtoneref14_Made.mono _ _)
      | (with_reducible exact LeO.refl _)
      | (with_reducible exact LeO.none _)
      | (with_reducible refine LeO.ite ?_ ?_)
      | (with_reducible refine LeO.bind ?_ (fun _ => ?_))
      | exact ih0 _ _ _ _ _ _
      | exact ih1 _ _ _ _ _
      | exact ih2 _ _ _
      | exact dialtoneref14_Made.mono _ _
      | exact LeO.none _
      | refine LeO.ite ?_ ?_
      | refine LeO.bind ?_ (fun _ => ?_)
    · intro y0 y1 y2
      unfold dialtonelaw14_LifeDecodes.l0
      repeat' first
      | (with_reducible exact ih0 _ _ _ _ _ _)
      | (with_reducible exact ih1 _ _ _ _ _)
      | (with_reducible exact ih2 _ _ _)
      | (with_reducible exact dialtoneref14_Made.mono _ _)
      | (with_reducible exact LeO.refl _)
      | (with_reducible exact LeO.none _)
      | (with_reducible refine LeO.ite ?_ ?_)
      | (with_reducible refine LeO.bind ?_ (fun _ => ?_))
      | exact ih0 _ _ _ _ _ _
      | exact ih1 _ _ _ _ _
      | exact ih2 _ _ _
      | exact dialtoneref14_Made.mono _ _
      | exact LeO.none _
      | refine LeO.ite ?_ ?_
      | refine LeO.bind ?_ (fun _ => ?_)
theorem dialtonelaw14_LifeDecodes.mono : ∀ a0 a1 a2 a3 a4 a5 k, LeO (dialtonelaw14_LifeDecodes.f k a0 a1 a2 a3 a4 a5) (dialtonelaw14_LifeDecodes.f (k + 1) a0 a1 a2 a3 a4 a5) := by
  intro a0 a1 a2 a3 a4 a5 k
  obtain ⟨ih0, ih1, ih2⟩ := dialtonelaw14_LifeDecodes.mono_l k
  unfold dialtonelaw14_LifeDecodes.f
  repeat' first
      | (with_reducible exact ih0 _ _ _ _ _ _)
      | (with_reducible exact ih1 _ _ _ _ _)
      | (with_reducible exact ih2 _ _ _)
      | (with_reducible exact dialtoneref14_Made.mono _ _)
      | (with_reducible exact LeO.refl _)
      | (with_reducible exact LeO.none _)
      | (with_reducible refine LeO.ite ?_ ?_)
      | (with_reducible refine LeO.bind ?_ (fun _ => ?_))
      | exact ih0 _ _ _ _ _ _
      | exact ih1 _ _ _ _ _
      | exact ih2 _ _ _
      | exact dialtoneref14_Made.mono _ _
      | exact LeO.none _
      | refine LeO.ite ?_ ?_
      | refine LeO.bind ?_ (fun _ => ?_)
def dialtonelaw14_LifeDecodes.T14 : Bool × List (List Nat × List Nat) := (true, [([], []), ([], []), ([1], [1]), ([2], [2]), ([0, 3], [0, 3]), ([], []), ([], []), ([5, 6], [5, 6]), ([], []), ([8], [8]), ([9], [9]), ([7, 10], [7, 10]), ([], []), ([], []), ([13], [13]), ([12, 14], [12, 14]), ([11, 15], [11, 15]), ([], []), ([], []), ([], []), ([19], [19]), ([20], [20]), ([18, 21], [18, 21]), ([17, 22], [17, 22]), ([4, 16, 23], [4, 16, 23]), ([24], [24]), ([], [])])
def dialtonelaw14_LifeDecodes.B14 : List Nat := [0, 0, 2, 6, 15, 0, 0, 96, 0, 256, 768, 2016, 0, 0, 8192, 28672, 65504, 0, 0, 0, 524288, 1572864, 3932160, 8257536, 16777215, 33554431, 0]
theorem dialtonelaw14_LifeDecodes.tab14 : rtab .any (opsOf Try.f12 14) = dialtonelaw14_LifeDecodes.T14 := by kernel_rfl
theorem dialtonelaw14_LifeDecodes.bits14 : waitsOk dialtonelaw14_LifeDecodes.T14.2 dialtonelaw14_LifeDecodes.B14 = true := by kernel_rfl
set_option maxHeartbeats 8000000 in
set_option maxRecDepth 100000 in
theorem dialtonelaw14_LifeDecodes.calls (k : Nat) (A0 : Option Addr) (c0 : Nat) (l0 : List (S23)) (a1 : Int) (a2 : Int) (a3 : ByteArray) (a4 : Int) (a5 : Int) (r : Bool) (w : World) (hr0 : Kd.C k23 w A0 l0.length l0) (hc0 : l0.length ≤ c0) (h : dialtonelaw14_LifeDecodes.f k l0 a1 a2 a3 a4 a5 = some r) :
    Calls Try.prog 12 #[.slice A0 l0.length c0, .int .i64 a1, .int .i64 a2, .string a3, .int .i64 a4, .int .u8 a5] w fun e w' => e = .returned (.bool r) ∧ Below w.heap.size w w' := by
  have hu54 := Try.underlying54
  have HR0 := Aside0.mk hr0
  have HC0 := Aside0.mk hc0
  clear hr0 hc0
  have HB := Aside0.mk (Below.refl w.heap.size w)
  have H : ((dialtonelaw14_sane.f).bind fun t277 => (if t277 = true then ((dialtoneref14_Made.f k l0).bind fun t278 => ((dialtonelaw14_pick.f a4 10000001).bind fun t281 => (if t278.length < 5864062014805 then ((some (t278 ++ [(⟨5, t281, (-1)⟩ : S54)] : List (S54))).bind fun y282 => ((dialtonelaw14_pick.f a1 (y282.length : Int)).bind fun t285 => (if 0 ≤ t285 then (if t285 < (y282.length : Int) then ((dialtonelaw14_pick.f a2 (y282.length : Int)).bind fun t288 => (if 0 ≤ t288 then (if t288 < (y282.length : Int) then ((life_Encode.f ((rd_T54 y282 t285).f0) ((rd_T54 y282 t285).f1) ((rd_T54 y282 t285).f2)).bind fun bt291 => ((life_Encode.f ((rd_T54 y282 t288).f0) ((rd_T54 y282 t288).f1) ((rd_T54 y282 t288).f2)).bind fun bt293 => ((life_Decode.f bt291.1).bind fun bt295 => (if bt291.2 = 0 then (if bt293.2 = 0 then (if bt295.2.2.2 = 0 then (if (!(bt295.1 == ((rd_T54 y282 t285).f0)) || (!(bt295.2.1 == ((rd_T54 y282 t285).f1)) || (!(bt295.2.2.1 == ((rd_T54 y282 t285).f2))))) = true then (dialtonelaw14_LifeDecodes.j0 k a3 a4 a5 bt291.1 bt293.1 true) else (if bt291.1.toList = bt293.1.toList then (if ((((rd_T54 y282 t285).f0) == ((rd_T54 y282 t288).f0) && (((rd_T54 y282 t285).f1) == ((rd_T54 y282 t288).f1) && (((rd_T54 y282 t285).f2) == ((rd_T54 y282 t288).f2)))) = true) then (dialtonelaw14_LifeDecodes.j0 k a3 a4 a5 bt291.1 bt293.1 ((bt291.1.size : Int) == 0)) else (dialtonelaw14_LifeDecodes.j0 k a3 a4 a5 bt291.1 bt293.1 true)) else (if (((rd_T54 y282 t285).f0) == ((rd_T54 y282 t288).f0) && (((rd_T54 y282 t285).f1) == ((rd_T54 y282 t288).f1) && (((rd_T54 y282 t285).f2) == ((rd_T54 y282 t288).f2)))) = true then (dialtonelaw14_LifeDecodes.j0 k a3 a4 a5 bt291.1 bt293.1 true) else (dialtonelaw14_LifeDecodes.j0 k a3 a4 a5 bt291.1 bt293.1 ((bt291.1.size : Int) == 0))))) else (dialtonelaw14_LifeDecodes.j0 k a3 a4 a5 bt291.1 bt293.1 true)) else (dialtonelaw14_LifeDecodes.j0 k a3 a4 a5 bt291.1 bt293.1 true)) else (dialtonelaw14_LifeDecodes.j0 k a3 a4 a5 bt291.1 bt293.1 true))))) else (none)) else (none))) else (none)) else (none)))) else (none)))) else (some false))) = some r := h
  clear h
  replace H := Option.bind_eq_some_iff.mp H
  obtain ⟨t277, A70, H⟩ := H
  replace H : (if t277 = true then ((dialtoneref14_Made.f k l0).bind fun t278 => ((dialtonelaw14_pick.f a4 10000001).bind fun t281 => (if t278.length < 5864062014805 then ((some (t278 ++ [(⟨5, t281, (-1)⟩ : S54)] : List (S54))).bind fun y282 => ((dialtonelaw14_pick.f a1 (y282.length : Int)).bind fun t285 => (if 0 ≤ t285 then (if t285 < (y282.length : Int) then ((dialtonelaw14_pick.f a2 (y282.length : Int)).bind fun t288 => (if 0 ≤ t288 then (if t288 < (y282.length : Int) then ((life_Encode.f ((rd_T54 y282 t285).f0) ((rd_T54 y282 t285).f1) ((rd_T54 y282 t285).f2)).bind fun bt291 => ((life_Encode.f ((rd_T54 y282 t288).f0) ((rd_T54 y282 t288).f1) ((rd_T54 y282 t288).f2)).bind fun bt293 => ((life_Decode.f bt291.1).bind fun bt295 => (if bt291.2 = 0 then (if bt293.2 = 0 then (if bt295.2.2.2 = 0 then (if (!(bt295.1 == ((rd_T54 y282 t285).f0)) || (!(bt295.2.1 == ((rd_T54 y282 t285).f1)) || (!(bt295.2.2.1 == ((rd_T54 y282 t285).f2))))) = true then (dialtonelaw14_LifeDecodes.j0 k a3 a4 a5 bt291.1 bt293.1 true) else (if bt291.1.toList = bt293.1.toList then (if ((((rd_T54 y282 t285).f0) == ((rd_T54 y282 t288).f0) && (((rd_T54 y282 t285).f1) == ((rd_T54 y282 t288).f1) && (((rd_T54 y282 t285).f2) == ((rd_T54 y282 t288).f2)))) = true) then (dialtonelaw14_LifeDecodes.j0 k a3 a4 a5 bt291.1 bt293.1 ((bt291.1.size : Int) == 0)) else (dialtonelaw14_LifeDecodes.j0 k a3 a4 a5 bt291.1 bt293.1 true)) else (if (((rd_T54 y282 t285).f0) == ((rd_T54 y282 t288).f0) && (((rd_T54 y282 t285).f1) == ((rd_T54 y282 t288).f1) && (((rd_T54 y282 t285).f2) == ((rd_T54 y282 t288).f2)))) = true then (dialtonelaw14_LifeDecodes.j0 k a3 a4 a5 bt291.1 bt293.1 true) else (dialtonelaw14_LifeDecodes.j0 k a3 a4 a5 bt291.1 bt293.1 ((bt291.1.size : Int) == 0))))) else (dialtonelaw14_LifeDecodes.j0 k a3 a4 a5 bt291.1 bt293.1 true)) else (dialtonelaw14_LifeDecodes.j0 k a3 a4 a5 bt291.1 bt293.1 true)) else (dialtonelaw14_LifeDecodes.j0 k a3 a4 a5 bt291.1 bt293.1 true))))) else (none)) else (none))) else (none)) else (none)))) else (none)))) else (some false)) = some r := H
  have A7 := Aside0.mk A70
  clear A70
  by_cases c8 : t277 = true
  · subst c8
    have H1 : ((dialtoneref14_Made.f k l0).bind fun t278 => ((dialtonelaw14_pick.f a4 10000001).bind fun t281 => (if t278.length < 5864062014805 then ((some (t278 ++ [(⟨5, t281, (-1)⟩ : S54)] : List (S54))).bind fun y282 => ((dialtonelaw14_pick.f a1 (y282.length : Int)).bind fun t285 => (if 0 ≤ t285 then (if t285 < (y282.length : Int) then ((dialtonelaw14_pick.f a2 (y282.length : Int)).bind fun t288 => (if 0 ≤ t288 then (if t288 < (y282.length : Int) then ((life_Encode.f ((rd_T54 y282 t285).f0) ((rd_T54 y282 t285).f1) ((rd_T54 y282 t285).f2)).bind fun bt291 => ((life_Encode.f ((rd_T54 y282 t288).f0) ((rd_T54 y282 t288).f1) ((rd_T54 y282 t288).f2)).bind fun bt293 => ((life_Decode.f bt291.1).bind fun bt295 => (if bt291.2 = 0 then (if bt293.2 = 0 then (if bt295.2.2.2 = 0 then (if (!(bt295.1 == ((rd_T54 y282 t285).f0)) || (!(bt295.2.1 == ((rd_T54 y282 t285).f1)) || (!(bt295.2.2.1 == ((rd_T54 y282 t285).f2))))) = true then (dialtonelaw14_LifeDecodes.j0 k a3 a4 a5 bt291.1 bt293.1 true) else (if bt291.1.toList = bt293.1.toList then (if ((((rd_T54 y282 t285).f0) == ((rd_T54 y282 t288).f0) && (((rd_T54 y282 t285).f1) == ((rd_T54 y282 t288).f1) && (((rd_T54 y282 t285).f2) == ((rd_T54 y282 t288).f2)))) = true) then (dialtonelaw14_LifeDecodes.j0 k a3 a4 a5 bt291.1 bt293.1 ((bt291.1.size : Int) == 0)) else (dialtonelaw14_LifeDecodes.j0 k a3 a4 a5 bt291.1 bt293.1 true)) else (if (((rd_T54 y282 t285).f0) == ((rd_T54 y282 t288).f0) && (((rd_T54 y282 t285).f1) == ((rd_T54 y282 t288).f1) && (((rd_T54 y282 t285).f2) == ((rd_T54 y282 t288).f2)))) = true then (dialtonelaw14_LifeDecodes.j0 k a3 a4 a5 bt291.1 bt293.1 true) else (dialtonelaw14_LifeDecodes.j0 k a3 a4 a5 bt291.1 bt293.1 ((bt291.1.size : Int) == 0))))) else (dialtonelaw14_LifeDecodes.j0 k a3 a4 a5 bt291.1 bt293.1 true)) else (dialtonelaw14_LifeDecodes.j0 k a3 a4 a5 bt291.1 bt293.1 true)) else (dialtonelaw14_LifeDecodes.j0 k a3 a4 a5 bt291.1 bt293.1 true))))) else (none)) else (none))) else (none)) else (none)))) else (none)))) = some r := by rw [if_pos rfl] at H; exact H
    clear H
    have H := H1
    clear H1
    replace H := Option.bind_eq_some_iff.mp H
    obtain ⟨t278, A90, H⟩ := H
    replace H : ((dialtonelaw14_pick.f a4 10000001).bind fun t281 => (if t278.length < 5864062014805 then ((some (t278 ++ [(⟨5, t281, (-1)⟩ : S54)] : List (S54))).bind fun y282 => ((dialtonelaw14_pick.f a1 (y282.length : Int)).bind fun t285 => (if 0 ≤ t285 then (if t285 < (y282.length : Int) then ((dialtonelaw14_pick.f a2 (y282.length : Int)).bind fun t288 => (if 0 ≤ t288 then (if t288 < (y282.length : Int) then ((life_Encode.f ((rd_T54 y282 t285).f0) ((rd_T54 y282 t285).f1) ((rd_T54 y282 t285).f2)).bind fun bt291 => ((life_Encode.f ((rd_T54 y282 t288).f0) ((rd_T54 y282 t288).f1) ((rd_T54 y282 t288).f2)).bind fun bt293 => ((life_Decode.f bt291.1).bind fun bt295 => (if bt291.2 = 0 then (if bt293.2 = 0 then (if bt295.2.2.2 = 0 then (if (!(bt295.1 == ((rd_T54 y282 t285).f0)) || (!(bt295.2.1 == ((rd_T54 y282 t285).f1)) || (!(bt295.2.2.1 == ((rd_T54 y282 t285).f2))))) = true then (dialtonelaw14_LifeDecodes.j0 k a3 a4 a5 bt291.1 bt293.1 true) else (if bt291.1.toList = bt293.1.toList then (if ((((rd_T54 y282 t285).f0) == ((rd_T54 y282 t288).f0) && (((rd_T54 y282 t285).f1) == ((rd_T54 y282 t288).f1) && (((rd_T54 y282 t285).f2) == ((rd_T54 y282 t288).f2)))) = true) then (dialtonelaw14_LifeDecodes.j0 k a3 a4 a5 bt291.1 bt293.1 ((bt291.1.size : Int) == 0)) else (dialtonelaw14_LifeDecodes.j0 k a3 a4 a5 bt291.1 bt293.1 true)) else (if (((rd_T54 y282 t285).f0) == ((rd_T54 y282 t288).f0) && (((rd_T54 y282 t285).f1) == ((rd_T54 y282 t288).f1) && (((rd_T54 y282 t285).f2) == ((rd_T54 y282 t288).f2)))) = true then (dialtonelaw14_LifeDecodes.j0 k a3 a4 a5 bt291.1 bt293.1 true) else (dialtonelaw14_LifeDecodes.j0 k a3 a4 a5 bt291.1 bt293.1 ((bt291.1.size : Int) == 0))))) else (dialtonelaw14_LifeDecodes.j0 k a3 a4 a5 bt291.1 bt293.1 true)) else (dialtonelaw14_LifeDecodes.j0 k a3 a4 a5 bt291.1 bt293.1 true)) else (dialtonelaw14_LifeDecodes.j0 k a3 a4 a5 bt291.1 bt293.1 true))))) else (none)) else (none))) else (none)) else (none)))) else (none))) = some r := H
    have A9 := Aside0.mk A90
    clear A90
    replace H := Option.bind_eq_some_iff.mp H
    obtain ⟨t281, A100, H⟩ := H
    replace H : (if t278.length < 5864062014805 then ((some (t278 ++ [(⟨5, t281, (-1)⟩ : S54)] : List (S54))).bind fun y282 => ((dialtonelaw14_pick.f a1 (y282.length : Int)).bind fun t285 => (if 0 ≤ t285 then (if t285 < (y282.length : Int) then ((dialtonelaw14_pick.f a2 (y282.length : Int)).bind fun t288 => (if 0 ≤ t288 then (if t288 < (y282.length : Int) then ((life_Encode.f ((rd_T54 y282 t285).f0) ((rd_T54 y282 t285).f1) ((rd_T54 y282 t285).f2)).bind fun bt291 => ((life_Encode.f ((rd_T54 y282 t288).f0) ((rd_T54 y282 t288).f1) ((rd_T54 y282 t288).f2)).bind fun bt293 => ((life_Decode.f bt291.1).bind fun bt295 => (if bt291.2 = 0 then (if bt293.2 = 0 then (if bt295.2.2.2 = 0 then (if (!(bt295.1 == ((rd_T54 y282 t285).f0)) || (!(bt295.2.1 == ((rd_T54 y282 t285).f1)) || (!(bt295.2.2.1 == ((rd_T54 y282 t285).f2))))) = true then (dialtonelaw14_LifeDecodes.j0 k a3 a4 a5 bt291.1 bt293.1 true) else (if bt291.1.toList = bt293.1.toList then (if ((((rd_T54 y282 t285).f0) == ((rd_T54 y282 t288).f0) && (((rd_T54 y282 t285).f1) == ((rd_T54 y282 t288).f1) && (((rd_T54 y282 t285).f2) == ((rd_T54 y282 t288).f2)))) = true) then (dialtonelaw14_LifeDecodes.j0 k a3 a4 a5 bt291.1 bt293.1 ((bt291.1.size : Int) == 0)) else (dialtonelaw14_LifeDecodes.j0 k a3 a4 a5 bt291.1 bt293.1 true)) else (if (((rd_T54 y282 t285).f0) == ((rd_T54 y282 t288).f0) && (((rd_T54 y282 t285).f1) == ((rd_T54 y282 t288).f1) && (((rd_T54 y282 t285).f2) == ((rd_T54 y282 t288).f2)))) = true then (dialtonelaw14_LifeDecodes.j0 k a3 a4 a5 bt291.1 bt293.1 true) else (dialtonelaw14_LifeDecodes.j0 k a3 a4 a5 bt291.1 bt293.1 ((bt291.1.size : Int) == 0))))) else (dialtonelaw14_LifeDecodes.j0 k a3 a4 a5 bt291.1 bt293.1 true)) else (dialtonelaw14_LifeDecodes.j0 k a3 a4 a5 bt291.1 bt293.1 true)) else (dialtonelaw14_LifeDecodes.j0 k a3 a4 a5 bt291.1 bt293.1 true))))) else (none)) else (none))) else (none)) else (none)))) else (none)) = some r := H
    have A10 := Aside0.mk A100
    clear A100
    by_cases c11 : t278.length < 5864062014805
    · rw [if_pos c11] at H
      have LMc11 := Aside0.mk c11
      clear c11
      obtain ⟨y282, hy282⟩ : ∃ y_ : List (S54), y_ = (t278 ++ [(⟨5, t281, (-1)⟩ : S54)]) := ⟨_, rfl⟩
      replace H : ((dialtonelaw14_pick.f a1 (y282.length : Int)).bind fun t285 => (if 0 ≤ t285 then (if t285 < (y282.length : Int) then ((dialtonelaw14_pick.f a2 (y282.length : Int)).bind fun t288 => (if 0 ≤ t288 then (if t288 < (y282.length : Int) then ((life_Encode.f ((rd_T54 y282 t285).f0) ((rd_T54 y282 t285).f1) ((rd_T54 y282 t285).f2)).bind fun bt291 => ((life_Encode.f ((rd_T54 y282 t288).f0) ((rd_T54 y282 t288).f1) ((rd_T54 y282 t288).f2)).bind fun bt293 => ((life_Decode.f bt291.1).bind fun bt295 => (if bt291.2 = 0 then (if bt293.2 = 0 then (if bt295.2.2.2 = 0 then (if (!(bt295.1 == ((rd_T54 y282 t285).f0)) || (!(bt295.2.1 == ((rd_T54 y282 t285).f1)) || (!(bt295.2.2.1 == ((rd_T54 y282 t285).f2))))) = true then (dialtonelaw14_LifeDecodes.j0 k a3 a4 a5 bt291.1 bt293.1 true) else (if bt291.1.toList = bt293.1.toList then (if ((((rd_T54 y282 t285).f0) == ((rd_T54 y282 t288).f0) && (((rd_T54 y282 t285).f1) == ((rd_T54 y282 t288).f1) && (((rd_T54 y282 t285).f2) == ((rd_T54 y282 t288).f2)))) = true) then (dialtonelaw14_LifeDecodes.j0 k a3 a4 a5 bt291.1 bt293.1 ((bt291.1.size : Int) == 0)) else (dialtonelaw14_LifeDecodes.j0 k a3 a4 a5 bt291.1 bt293.1 true)) else (if (((rd_T54 y282 t285).f0) == ((rd_T54 y282 t288).f0) && (((rd_T54 y282 t285).f1) == ((rd_T54 y282 t288).f1) && (((rd_T54 y282 t285).f2) == ((rd_T54 y282 t288).f2)))) = true then (dialtonelaw14_LifeDecodes.j0 k a3 a4 a5 bt291.1 bt293.1 true) else (dialtonelaw14_LifeDecodes.j0 k a3 a4 a5 bt291.1 bt293.1 ((bt291.1.size : Int) == 0))))) else (dialtonelaw14_LifeDecodes.j0 k a3 a4 a5 bt291.1 bt293.1 true)) else (dialtonelaw14_LifeDecodes.j0 k a3 a4 a5 bt291.1 bt293.1 true)) else (dialtonelaw14_LifeDecodes.j0 k a3 a4 a5 bt291.1 bt293.1 true))))) else (none)) else (none))) else (none)) else (none))) = some r := by first | (rw [hy282]; with_reducible exact H) | (have H2_ := (Option.bind_some _ _).symm.trans H; rw [hy282]; with_reducible exact H2_) | (have H2_ := (Option.bind_some _ _).symm.trans H; with_reducible exact H2_) | with_reducible exact H | (rw [hy282]; exact H) | exact H
      have Ny282 := Aside0.mk hy282
      clear hy282
      replace H := Option.bind_eq_some_iff.mp H
      obtain ⟨t285, A120, H⟩ := H
      replace H : (if 0 ≤ t285 then (if t285 < (y282.length : Int) then ((dialtonelaw14_pick.f a2 (y282.length : Int)).bind fun t288 => (if 0 ≤ t288 then (if t288 < (y282.length : Int) then ((life_Encode.f ((rd_T54 y282 t285).f0) ((rd_T54 y282 t285).f1) ((rd_T54 y282 t285).f2)).bind fun bt291 => ((life_Encode.f ((rd_T54 y282 t288).f0) ((rd_T54 y282 t288).f1) ((rd_T54 y282 t288).f2)).bind fun bt293 => ((life_Decode.f bt291.1).bind fun bt295 => (if bt291.2 = 0 then (if bt293.2 = 0 then (if bt295.2.2.2 = 0 then (if (!(bt295.1 == ((rd_T54 y282 t285).f0)) || (!(bt295.2.1 == ((rd_T54 y282 t285).f1)) || (!(bt295.2.2.1 == ((rd_T54 y282 t285).f2))))) = true then (dialtonelaw14_LifeDecodes.j0 k a3 a4 a5 bt291.1 bt293.1 true) else (if bt291.1.toList = bt293.1.toList then (if ((((rd_T54 y282 t285).f0) == ((rd_T54 y282 t288).f0) && (((rd_T54 y282 t285).f1) == ((rd_T54 y282 t288).f1) && (((rd_T54 y282 t285).f2) == ((rd_T54 y282 t288).f2)))) = true) then (dialtonelaw14_LifeDecodes.j0 k a3 a4 a5 bt291.1 bt293.1 ((bt291.1.size : Int) == 0)) else (dialtonelaw14_LifeDecodes.j0 k a3 a4 a5 bt291.1 bt293.1 true)) else (if (((rd_T54 y282 t285).f0) == ((rd_T54 y282 t288).f0) && (((rd_T54 y282 t285).f1) == ((rd_T54 y282 t288).f1) && (((rd_T54 y282 t285).f2) == ((rd_T54 y282 t288).f2)))) = true then (dialtonelaw14_LifeDecodes.j0 k a3 a4 a5 bt291.1 bt293.1 true) else (dialtonelaw14_LifeDecodes.j0 k a3 a4 a5 bt291.1 bt293.1 ((bt291.1.size : Int) == 0))))) else (dialtonelaw14_LifeDecodes.j0 k a3 a4 a5 bt291.1 bt293.1 true)) else (dialtonelaw14_LifeDecodes.j0 k a3 a4 a5 bt291.1 bt293.1 true)) else (dialtonelaw14_LifeDecodes.j0 k a3 a4 a5 bt291.1 bt293.1 true))))) else (none)) else (none))) else (none)) else (none)) = some r := H
      have A12 := Aside0.mk A120
      clear A120
      by_cases c13 : 0 ≤ t285
      · rw [if_pos c13] at H
        have c13b0 : decide (0 ≤ t285) = true := decide_eq_true c13
        clear c13
        by_cases c14 : t285 < (y282.length : Int)
        · rw [if_pos c14] at H
          have c14b0 : decide (t285 < (y282.length : Int)) = true := decide_eq_true c14
          clear c14
          replace H := Option.bind_eq_some_iff.mp H
          obtain ⟨t288, A150, H⟩ := H
          replace H : (if 0 ≤ t288 then (if t288 < (y282.length : Int) then ((life_Encode.f ((rd_T54 y282 t285).f0) ((rd_T54 y282 t285).f1) ((rd_T54 y282 t285).f2)).bind fun bt291 => ((life_Encode.f ((rd_T54 y282 t288).f0) ((rd_T54 y282 t288).f1) ((rd_T54 y282 t288).f2)).bind fun bt293 => ((life_Decode.f bt291.1).bind fun bt295 => (if bt291.2 = 0 then (if bt293.2 = 0 then (if bt295.2.2.2 = 0 then (if (!(bt295.1 == ((rd_T54 y282 t285).f0)) || (!(bt295.2.1 == ((rd_T54 y282 t285).f1)) || (!(bt295.2.2.1 == ((rd_T54 y282 t285).f2))))) = true then (dialtonelaw14_LifeDecodes.j0 k a3 a4 a5 bt291.1 bt293.1 true) else (if bt291.1.toList = bt293.1.toList then (if ((((rd_T54 y282 t285).f0) == ((rd_T54 y282 t288).f0) && (((rd_T54 y282 t285).f1) == ((rd_T54 y282 t288).f1) && (((rd_T54 y282 t285).f2) == ((rd_T54 y282 t288).f2)))) = true) then (dialtonelaw14_LifeDecodes.j0 k a3 a4 a5 bt291.1 bt293.1 ((bt291.1.size : Int) == 0)) else (dialtonelaw14_LifeDecodes.j0 k a3 a4 a5 bt291.1 bt293.1 true)) else (if (((rd_T54 y282 t285).f0) == ((rd_T54 y282 t288).f0) && (((rd_T54 y282 t285).f1) == ((rd_T54 y282 t288).f1) && (((rd_T54 y282 t285).f2) == ((rd_T54 y282 t288).f2)))) = true then (dialtonelaw14_LifeDecodes.j0 k a3 a4 a5 bt291.1 bt293.1 true) else (dialtonelaw14_LifeDecodes.j0 k a3 a4 a5 bt291.1 bt293.1 ((bt291.1.size : Int) == 0))))) else (dialtonelaw14_LifeDecodes.j0 k a3 a4 a5 bt291.1 bt293.1 true)) else (dialtonelaw14_LifeDecodes.j0 k a3 a4 a5 bt291.1 bt293.1 true)) else (dialtonelaw14_LifeDecodes.j0 k a3 a4 a5 bt291.1 bt293.1 true))))) else (none)) else (none)) = some r := H
          have A15 := Aside0.mk A150
          clear A150
          by_cases c16 : 0 ≤ t288
          · rw [if_pos c16] at H
            have c16b0 : decide (0 ≤ t288) = true := decide_eq_true c16
            clear c16
            by_cases c17 : t288 < (y282.length : Int)
            · rw [if_pos c17] at H
              have c17b0 : decide (t288 < (y282.length : Int)) = true := decide_eq_true c17
              clear c17
              replace H := Option.bind_eq_some_iff.mp H
              obtain ⟨⟨t291, t292⟩, A180, H⟩ := H
              replace H : ((life_Encode.f ((rd_T54 y282 t288).f0) ((rd_T54 y282 t288).f1) ((rd_T54 y282 t288).f2)).bind fun bt293 => ((life_Decode.f t291).bind fun bt295 => (if t292 = 0 then (if bt293.2 = 0 then (if bt295.2.2.2 = 0 then (if (!(bt295.1 == ((rd_T54 y282 t285).f0)) || (!(bt295.2.1 == ((rd_T54 y282 t285).f1)) || (!(bt295.2.2.1 == ((rd_T54 y282 t285).f2))))) = true then (dialtonelaw14_LifeDecodes.j0 k a3 a4 a5 t291 bt293.1 true) else (if t291.toList = bt293.1.toList then (if ((((rd_T54 y282 t285).f0) == ((rd_T54 y282 t288).f0) && (((rd_T54 y282 t285).f1) == ((rd_T54 y282 t288).f1) && (((rd_T54 y282 t285).f2) == ((rd_T54 y282 t288).f2)))) = true) then (dialtonelaw14_LifeDecodes.j0 k a3 a4 a5 t291 bt293.1 ((t291.size : Int) == 0)) else (dialtonelaw14_LifeDecodes.j0 k a3 a4 a5 t291 bt293.1 true)) else (if (((rd_T54 y282 t285).f0) == ((rd_T54 y282 t288).f0) && (((rd_T54 y282 t285).f1) == ((rd_T54 y282 t288).f1) && (((rd_T54 y282 t285).f2) == ((rd_T54 y282 t288).f2)))) = true then (dialtonelaw14_LifeDecodes.j0 k a3 a4 a5 t291 bt293.1 true) else (dialtonelaw14_LifeDecodes.j0 k a3 a4 a5 t291 bt293.1 ((t291.size : Int) == 0))))) else (dialtonelaw14_LifeDecodes.j0 k a3 a4 a5 t291 bt293.1 true)) else (dialtonelaw14_LifeDecodes.j0 k a3 a4 a5 t291 bt293.1 true)) else (dialtonelaw14_LifeDecodes.j0 k a3 a4 a5 t291 bt293.1 true)))) = some r := H
              have A18 := Aside0.mk A180
              clear A180
              replace H := Option.bind_eq_some_iff.mp H
              obtain ⟨⟨t293, t294⟩, A190, H⟩ := H
              replace H : ((life_Decode.f t291).bind fun bt295 => (if t292 = 0 then (if t294 = 0 then (if bt295.2.2.2 = 0 then (if (!(bt295.1 == ((rd_T54 y282 t285).f0)) || (!(bt295.2.1 == ((rd_T54 y282 t285).f1)) || (!(bt295.2.2.1 == ((rd_T54 y282 t285).f2))))) = true then (dialtonelaw14_LifeDecodes.j0 k a3 a4 a5 t291 t293 true) else (if t291.toList = t293.toList then (if ((((rd_T54 y282 t285).f0) == ((rd_T54 y282 t288).f0) && (((rd_T54 y282 t285).f1) == ((rd_T54 y282 t288).f1) && (((rd_T54 y282 t285).f2) == ((rd_T54 y282 t288).f2)))) = true) then (dialtonelaw14_LifeDecodes.j0 k a3 a4 a5 t291 t293 ((t291.size : Int) == 0)) else (dialtonelaw14_LifeDecodes.j0 k a3 a4 a5 t291 t293 true)) else (if (((rd_T54 y282 t285).f0) == ((rd_T54 y282 t288).f0) && (((rd_T54 y282 t285).f1) == ((rd_T54 y282 t288).f1) && (((rd_T54 y282 t285).f2) == ((rd_T54 y282 t288).f2)))) = true then (dialtonelaw14_LifeDecodes.j0 k a3 a4 a5 t291 t293 true) else (dialtonelaw14_LifeDecodes.j0 k a3 a4 a5 t291 t293 ((t291.size : Int) == 0))))) else (dialtonelaw14_LifeDecodes.j0 k a3 a4 a5 t291 t293 true)) else (dialtonelaw14_LifeDecodes.j0 k a3 a4 a5 t291 t293 true)) else (dialtonelaw14_LifeDecodes.j0 k a3 a4 a5 t291 t293 true))) = some r := H
              have A19 := Aside0.mk A190
              clear A190
              replace H := Option.bind_eq_some_iff.mp H
              obtain ⟨⟨t295, t296, t297, t298⟩, A200, H⟩ := H
              replace H : (if t292 = 0 then (if t294 = 0 then (if t298 = 0 then (if (!(t295 == ((rd_T54 y282 t285).f0)) || (!(t296 == ((rd_T54 y282 t285).f1)) || (!(t297 == ((rd_T54 y282 t285).f2))))) = true then (dialtonelaw14_LifeDecodes.j0 k a3 a4 a5 t291 t293 true) else (if t291.toList = t293.toList then (if ((((rd_T54 y282 t285).f0) == ((rd_T54 y282 t288).f0) && (((rd_T54 y282 t285).f1) == ((rd_T54 y282 t288).f1) && (((rd_T54 y282 t285).f2) == ((rd_T54 y282 t288).f2)))) = true) then (dialtonelaw14_LifeDecodes.j0 k a3 a4 a5 t291 t293 ((t291.size : Int) == 0)) else (dialtonelaw14_LifeDecodes.j0 k a3 a4 a5 t291 t293 true)) else (if (((rd_T54 y282 t285).f0) == ((rd_T54 y282 t288).f0) && (((rd_T54 y282 t285).f1) == ((rd_T54 y282 t288).f1) && (((rd_T54 y282 t285).f2) == ((rd_T54 y282 t288).f2)))) = true then (dialtonelaw14_LifeDecodes.j0 k a3 a4 a5 t291 t293 true) else (dialtonelaw14_LifeDecodes.j0 k a3 a4 a5 t291 t293 ((t291.size : Int) == 0))))) else (dialtonelaw14_LifeDecodes.j0 k a3 a4 a5 t291 t293 true)) else (dialtonelaw14_LifeDecodes.j0 k a3 a4 a5 t291 t293 true)) else (dialtonelaw14_LifeDecodes.j0 k a3 a4 a5 t291 t293 true)) = some r := H
              have A20 := Aside0.mk A200
              clear A200
              have HC21 := Aside0.mk H
              clear H
              go_enter Try.func12, Try.ntmps12
              go_upto_region 9 with (first | ((with_reducible refine gate_callee (f := 13) rfl ?_); refine goesL_ (some 29) rfl rfl Try.func13 (by kernel_rfl) rfl #[] rfl (by (try simp only [List.map_toArray, List.map_cons, List.map_nil]); first | done | rfl | (simp only [List.length_drop, List.length_take]; rfl)) ?_; (with_reducible refine (dialtonelaw14_sane.calls  true _ A7.out).mono ?_); rintro e w22 ⟨rfl, hb⟩; refine ⟨_, rfl, ?_⟩; have n0_ := Aside0.mk (below_step (by repeat (first | (with_reducible first | exact HB.out | apply below_alloc | apply pw_below_drewN | apply below_drew1) | exact HB.out)) hb); clear HB; have HB := n0_; clear n0_; (try clear hb); (try clear hb2); (try clear hk); (try clear hi)) | ((with_reducible refine gate_callee (f := 14) rfl ?_); refine goesL_ (some 32) rfl rfl Try.func14 (by kernel_rfl) rfl #[.slice A0 l0.length c0] rfl (by (try simp only [List.map_toArray, List.map_cons, List.map_nil]); first | done | rfl | (simp only [List.length_drop, List.length_take]; rfl)) ?_; (with_reducible refine (dialtoneref14_Made.calls k _ _ l0 t278 _ ?side1 ?side2 A9.out).mono ?_); (case side1 => repeat (first | exact (Kd.C_below HR0.out HB.out) | (with_reducible refine Kd.C_alloc ?_ _) | (with_reducible refine Kd.C_drewN ?_ _) | (with_reducible refine Kd.C_drew ?_))); (case side2 => exact HC0.out); rintro e w23 ⟨v279, rfl, ho0, hb⟩; refine ⟨_, rfl, ?_⟩; have n0_ := Aside0.mk (Kd.R_lower ho0 (below_size (by repeat (first | (with_reducible first | exact HB.out | apply below_alloc | apply pw_below_drewN | apply below_drew1) | exact HB.out)))); have n1_ := Aside0.mk (below_step (by repeat (first | (with_reducible first | exact HB.out | apply below_alloc | apply pw_below_drewN | apply below_drew1) | exact HB.out)) hb); clear HB; have HO280 := n0_; have HB := n1_; clear n0_ n1_; (try clear hb); (try clear hb2); (try clear hk); (try clear hi); (try clear ho0)) | ((with_reducible refine gate_callee (f := 29) rfl ?_); refine goesL_ (some 34) rfl rfl Try.func29 (by kernel_rfl) rfl #[.int .i64 a4, .int .i64 10000001] rfl (by (try simp only [List.map_toArray, List.map_cons, List.map_nil]); first | done | rfl | (simp only [List.length_drop, List.length_take]; rfl)) ?_; (with_reducible refine (dialtonelaw14_pick.calls a4 10000001 t281 _ A10.out).mono ?_); rintro e w' ⟨rfl, ⟨nd, rfl⟩⟩; refine ⟨_, rfl, ?_⟩; (try (rw [drewN_self w23]; generalize hq_ : World.drewN w23 _ = w23; have n0_ : Aside0 (Kd.R k54 54 w23 w.heap.size (fun _ => True) v279 t278) := ⟨by rw [← hq_]; exact (by (with_reducible repeat (first | apply Kd.R_alloc | apply Kd.R_drewN | apply Kd.R_drew)); exact HO280.out)⟩; have n1_ : Aside0 (Below w.heap.size w w23) := ⟨by rw [← hq_]; exact (by repeat (first | (with_reducible first | exact HB.out | apply below_alloc | apply pw_below_drewN | apply below_drew1) | exact HB.out))⟩; clear HO280 HB hq_; have HO280 := n0_; have HB := n1_; clear n0_ n1_))) | ((with_reducible refine gate_builtin (b := .append) (xs := #[.tmp 32, .tmp 36]) rfl ?_); (try (refine gate_guard (by rfl) ?_; dsimp only)); at_builtin; refine Kd.R_append k54 (w0 := w) w.heap.size rfl (.tmp 32) (.tmp 36) 24 54 (.agg #[(.int .i64 0), (.int .i64 0), (.int .i64 0)]) 24 rfl Try.underlying24 info54 rfl (by decide) (by omega) v279 t278 (⟨5, t281, (-1)⟩ : S54) [.int .i64 5, .int .i64 t281, .int .i64 (-1)] (fun _ => True) (fun _ => False) rfl rfl ?aP (fun _ hk => hk.elim) ?aF ?aO ?aB ?aS ?aL ?_; (case aP => exact k54_mkM _ _ _ (⟨5, t281, (-1)⟩ : S54)); (case aB => exact (by repeat (first | (with_reducible first | exact HB.out | apply below_alloc | apply pw_below_drewN | apply below_drew1) | exact HB.out))); (case aF => exact (fun _ _ => trivial)); (case aO => exact (by (with_reducible repeat (first | apply Kd.R_alloc | apply Kd.R_drewN | apply Kd.R_drew)); exact HO280.out)); (case aS => exact (below_size (by repeat (first | (with_reducible first | exact HB.out | apply below_alloc | apply pw_below_drewN | apply below_drew1) | exact HB.out)))); (case aL => have := LMc11.out; omega); intro v283 w24 ho hb hg hat; rw [← Ny282.out] at ho; have n0_ := Aside0.mk (hb); have n1_ := Aside0.mk (ho); clear HB; clear HO280; have HB := n0_; have HO284 := n1_; clear n0_ n1_; clear ho hb hg hat; obtain ⟨Ao25, co25, eo25⟩ := Kd.R_slice HO284.out; subst eo25) | ((with_reducible refine gate_callee (f := 29) rfl ?_); refine goesL_ (some 42) rfl rfl Try.func29 (by kernel_rfl) rfl #[.int .i64 a1, .int .i64 (y282.length : Int)] rfl (by (try simp only [List.map_toArray, List.map_cons, List.map_nil]); first | done | rfl | (simp only [List.length_drop, List.length_take]; rfl)) ?_; (with_reducible refine (dialtonelaw14_pick.calls a1 (y282.length : Int) t285 _ A12.out).mono ?_); rintro e w' ⟨rfl, ⟨nd, rfl⟩⟩; refine ⟨_, rfl, ?_⟩; (try (rw [drewN_self w24]; generalize hq_ : World.drewN w24 _ = w24; have n0_ : Aside0 (Kd.R k54 54 w24 w.heap.size (fun _ => True) (.slice Ao25 y282.length co25) y282) := ⟨by rw [← hq_]; exact (by (with_reducible repeat (first | apply Kd.R_alloc | apply Kd.R_drewN | apply Kd.R_drew)); exact HO284.out)⟩; have n1_ : Aside0 (Below w.heap.size w w24) := ⟨by rw [← hq_]; exact (by repeat (first | (with_reducible first | exact HB.out | apply below_alloc | apply pw_below_drewN | apply below_drew1) | exact HB.out))⟩; clear HO284 HB hq_; have HO284 := n0_; have HB := n1_; clear n0_ n1_)); have p286 : 0 ≤ (t285 : Int) := of_decide_eq_true (by first | (with_reducible assumption) | assumption); have q286 : t285 < (y282.length : Int) := of_decide_eq_true (by first | (with_reducible assumption) | assumption); obtain ⟨ad286, e286, hx286_0, hx286_1, hx286_2⟩ := at_T54 (Kd.R_reads' HO284.out).2.2 t285 p286 q286; cases e286; replace p286 := eq_true p286; replace q286 := eq_true q286) | ((with_reducible refine gate_dst (N := 14) rfl ?_); (try (refine gate_guard (by rfl) ?_; dsimp only)); refine box_event ?hg (N := 14) ?hd (cs := #[.int .i64 0, .int .i64 0, .int .i64 0]) (t := 54) ?hr ?_; (case hd => rfl); (case hg => rfl); (case hr => first | (go_simp; done) | (go_simp; rfl)); intro gb287 hg w26 hbox hb; have n0_ := Aside0.mk (Kd.R_below (Kd.R_elderB (by (with_reducible repeat (first | apply Kd.R_alloc | apply Kd.R_drewN | apply Kd.R_drew)); exact HO284.out) gb287 (Nat.le_of_eq hg.symm)) hb); have n1_ := Aside0.mk (below_step (by repeat (first | (with_reducible first | exact HB.out | apply below_alloc | apply pw_below_drewN | apply below_drew1) | exact HB.out)) hb); have n2_ := Aside0.mk (hbox); have n3_ := Aside0.mk ((by rw [hg]; exact (below_size (by repeat (first | (with_reducible first | exact HB.out | apply below_alloc | apply pw_below_drewN | apply below_drew1) | exact HB.out))) : w.heap.size ≤ gb287)); have n4_ := Aside0.mk ((by rw [hg]; exact (below_size (by repeat (first | (with_reducible first | exact HB.out | apply below_alloc | apply pw_below_drewN | apply below_drew1) | exact HB.out))) : w.heap.size ≤ gb287)); clear HO284; clear HB; have HO284 := n0_; have HB := n1_; have BK287 := n2_; have GW287 := n3_; have GE287 := n4_; clear n0_ n1_ n2_ n3_ n4_; clear hb hbox hg; have hcz27_0 : w26.cell? ⟨gb287, 0, none⟩ = some (.int .i64 0) := (blk_cell BK287.out 0).trans rfl; have hcz27_1 : w26.cell? ⟨gb287, 1, none⟩ = some (.int .i64 0) := (blk_cell BK287.out 1).trans rfl; have hcz27_2 : w26.cell? ⟨gb287, 2, none⟩ = some (.int .i64 0) := (blk_cell BK287.out 2).trans rfl; have hfz27_0 := blk_frozen BK287.out 0; have hfz27_1 := blk_frozen BK287.out 1; have hfz27_2 := blk_frozen BK287.out 2) | ((with_reducible refine gate_callee (f := 29) rfl ?_); refine goesL_ (some 49) rfl rfl Try.func29 (by kernel_rfl) rfl #[.int .i64 a2, .int .i64 (y282.length : Int)] rfl (by (try simp only [List.map_toArray, List.map_cons, List.map_nil]); first | done | rfl | (simp only [List.length_drop, List.length_take]; rfl)) ?_; (with_reducible refine (dialtonelaw14_pick.calls a2 (y282.length : Int) t288 _ A15.out).mono ?_); rintro e w' ⟨rfl, ⟨nd, rfl⟩⟩; refine ⟨_, rfl, ?_⟩; have p289 : 0 ≤ (t288 : Int) := of_decide_eq_true (by first | (with_reducible assumption) | assumption); have q289 : t288 < (y282.length : Int) := of_decide_eq_true (by first | (with_reducible assumption) | assumption); obtain ⟨ad289, e289, hx289_0, hx289_1, hx289_2⟩ := at_T54 (Kd.R_reads' HO284.out).2.2 t288 p289 q289; obtain rfl : ad286 = ad289 := (by injection e289); have hn289_0 : ad286.block ≠ gb287 := Kd.own_blk (Kd.R_away HO284.out (fun _ hk => hk.2)); have hn289_1 : ad286.block ≠ gb287 := Kd.own_blk (Kd.R_away HO284.out (fun _ hk => hk.2)); have hn289_2 : ad286.block ≠ gb287 := Kd.own_blk (Kd.R_away HO284.out (fun _ hk => hk.2)); replace hx289_0 := (cell_far (p := ⟨gb287, 0, none⟩) (by first | (rw [add_block]; exact hn289_0) | (show (Addr.add _ _).block ≠ _; rw [add_block]; exact hn289_0) | exact hn289_0) (.int .i64 ((rd_T54 y282 t285).f0))).trans hx289_0; replace hx289_1 := (cell_far (p := ⟨gb287, 0, none⟩) (by first | (rw [add_block]; exact hn289_0) | (show (Addr.add _ _).block ≠ _; rw [add_block]; exact hn289_0) | exact hn289_0) (.int .i64 ((rd_T54 y282 t285).f0))).trans hx289_1; replace hx289_2 := (cell_far (p := ⟨gb287, 0, none⟩) (by first | (rw [add_block]; exact hn289_0) | (show (Addr.add _ _).block ≠ _; rw [add_block]; exact hn289_0) | exact hn289_0) (.int .i64 ((rd_T54 y282 t285).f0))).trans hx289_2; replace hx289_0 := (cell_far (p := ⟨gb287, 1, none⟩) (by first | (rw [add_block]; exact hn289_1) | (show (Addr.add _ _).block ≠ _; rw [add_block]; exact hn289_1) | exact hn289_1) (.int .i64 ((rd_T54 y282 t285).f1))).trans hx289_0; replace hx289_1 := (cell_far (p := ⟨gb287, 1, none⟩) (by first | (rw [add_block]; exact hn289_1) | (show (Addr.add _ _).block ≠ _; rw [add_block]; exact hn289_1) | exact hn289_1) (.int .i64 ((rd_T54 y282 t285).f1))).trans hx289_1; replace hx289_2 := (cell_far (p := ⟨gb287, 1, none⟩) (by first | (rw [add_block]; exact hn289_1) | (show (Addr.add _ _).block ≠ _; rw [add_block]; exact hn289_1) | exact hn289_1) (.int .i64 ((rd_T54 y282 t285).f1))).trans hx289_2; replace hx289_0 := (cell_far (p := ⟨gb287, 2, none⟩) (by first | (rw [add_block]; exact hn289_2) | (show (Addr.add _ _).block ≠ _; rw [add_block]; exact hn289_2) | exact hn289_2) (.int .i64 ((rd_T54 y282 t285).f2))).trans hx289_0; replace hx289_1 := (cell_far (p := ⟨gb287, 2, none⟩) (by first | (rw [add_block]; exact hn289_2) | (show (Addr.add _ _).block ≠ _; rw [add_block]; exact hn289_2) | exact hn289_2) (.int .i64 ((rd_T54 y282 t285).f2))).trans hx289_1; replace hx289_2 := (cell_far (p := ⟨gb287, 2, none⟩) (by first | (rw [add_block]; exact hn289_2) | (show (Addr.add _ _).block ≠ _; rw [add_block]; exact hn289_2) | exact hn289_2) (.int .i64 ((rd_T54 y282 t285).f2))).trans hx289_2; clear hn289_0; clear hn289_1; clear hn289_2; replace p289 := eq_true p289; replace q289 := eq_true q289) | ((with_reducible refine gate_dst (N := 15) rfl ?_); (try (refine gate_guard (by rfl) ?_; dsimp only)); refine box_event ?hg (N := 15) ?hd (cs := #[.int .i64 0, .int .i64 0, .int .i64 0]) (t := 54) ?hr ?_; (case hd => rfl); (case hg => rfl); (case hr => first | (go_simp; done) | (go_simp; rfl)); intro gb290 hg w28 hbox hb; have n0_ := Aside0.mk (Kd.R_below (Kd.R_elderB (by (with_reducible repeat (first | apply Kd.R_alloc | apply Kd.R_drewN | apply Kd.R_drew)); exact (Kd.R_mono (Kd.R_far (p := ⟨gb287, 2, none⟩) (Kd.R_far (p := ⟨gb287, 1, none⟩) (Kd.R_far (p := ⟨gb287, 0, none⟩) (Kd.R_mono HO284.out (fun k_ hk => (⟨hk, hk.2⟩ : _ ∧ k_ ≠ gb287))) (fun _ hk => hk.2) (.int .i64 ((rd_T54 y282 t285).f0))) (fun _ hk => hk.2) (.int .i64 ((rd_T54 y282 t285).f1))) (fun _ hk => hk.2) (.int .i64 ((rd_T54 y282 t285).f2))) (fun _ h_ => h_.1))) gb290 (Nat.le_of_eq hg.symm)) hb); have n1_ := Aside0.mk (blk_below (g := gb287) (o := .cells #[.int .i64 ((rd_T54 y282 t285).f0), .int .i64 ((rd_T54 y282 t285).f1), .int .i64 ((rd_T54 y282 t285).f2)] 54 (0, 0)) (by (with_reducible repeat (first | refine blk_drewN ?_ _ | refine blk_drew ?_ | refine blk_alloc ?_ _)); refine blk_put (cs := #[.int .i64 ((rd_T54 y282 t285).f0), .int .i64 ((rd_T54 y282 t285).f1), .int .i64 0]) ?_ 2 _ rfl; (with_reducible repeat (first | refine blk_drewN ?_ _ | refine blk_drew ?_ | refine blk_alloc ?_ _)); refine blk_put (cs := #[.int .i64 ((rd_T54 y282 t285).f0), .int .i64 0, .int .i64 0]) ?_ 1 _ rfl; (with_reducible repeat (first | refine blk_drewN ?_ _ | refine blk_drew ?_ | refine blk_alloc ?_ _)); refine blk_put (cs := #[.int .i64 0, .int .i64 0, .int .i64 0]) ?_ 0 _ rfl; (with_reducible repeat (first | refine blk_drewN ?_ _ | refine blk_drew ?_ | refine blk_alloc ?_ _)); exact BK287.out) hb); have n2_ := Aside0.mk (below_step (by repeat (first | (with_reducible first | exact HB.out | apply below_alloc | apply pw_below_drewN | apply below_drew1 | refine below_set ?_ GE287.out) | exact HB.out)) hb); have n3_ := Aside0.mk (hbox); have n4_ := Aside0.mk ((by rw [hg]; exact (below_size (by repeat (first | (with_reducible first | exact HB.out | apply below_alloc | apply pw_below_drewN | apply below_drew1 | refine below_set ?_ GE287.out) | exact HB.out))) : w.heap.size ≤ gb290)); have n5_ := Aside0.mk ((by rw [hg]; exact (below_size (by repeat (first | (with_reducible first | exact HB.out | apply below_alloc | apply pw_below_drewN | apply below_drew1 | refine below_set ?_ GE287.out) | exact HB.out))) : w.heap.size ≤ gb290)); have n6_ := Aside0.mk ((by rw [hg]; exact Nat.ne_of_lt (blk_lt (g := gb287) (o := .cells #[.int .i64 ((rd_T54 y282 t285).f0), .int .i64 ((rd_T54 y282 t285).f1), .int .i64 ((rd_T54 y282 t285).f2)] 54 (0, 0)) (by (with_reducible repeat (first | refine blk_drewN ?_ _ | refine blk_drew ?_ | refine blk_alloc ?_ _)); refine blk_put (cs := #[.int .i64 ((rd_T54 y282 t285).f0), .int .i64 ((rd_T54 y282 t285).f1), .int .i64 0]) ?_ 2 _ rfl; (with_reducible repeat (first | refine blk_drewN ?_ _ | refine blk_drew ?_ | refine blk_alloc ?_ _)); refine blk_put (cs := #[.int .i64 ((rd_T54 y282 t285).f0), .int .i64 0, .int .i64 0]) ?_ 1 _ rfl; (with_reducible repeat (first | refine blk_drewN ?_ _ | refine blk_drew ?_ | refine blk_alloc ?_ _)); refine blk_put (cs := #[.int .i64 0, .int .i64 0, .int .i64 0]) ?_ 0 _ rfl; (with_reducible repeat (first | refine blk_drewN ?_ _ | refine blk_drew ?_ | refine blk_alloc ?_ _)); exact BK287.out)) : gb287 ≠ gb290)); have n7_ := Aside0.mk ((by rw [hg]; exact Nat.ne_of_gt (blk_lt (g := gb287) (o := .cells #[.int .i64 ((rd_T54 y282 t285).f0), .int .i64 ((rd_T54 y282 t285).f1), .int .i64 ((rd_T54 y282 t285).f2)] 54 (0, 0)) (by (with_reducible repeat (first | refine blk_drewN ?_ _ | refine blk_drew ?_ | refine blk_alloc ?_ _)); refine blk_put (cs := #[.int .i64 ((rd_T54 y282 t285).f0), .int .i64 ((rd_T54 y282 t285).f1), .int .i64 0]) ?_ 2 _ rfl; (with_reducible repeat (first | refine blk_drewN ?_ _ | refine blk_drew ?_ | refine blk_alloc ?_ _)); refine blk_put (cs := #[.int .i64 ((rd_T54 y282 t285).f0), .int .i64 0, .int .i64 0]) ?_ 1 _ rfl; (with_reducible repeat (first | refine blk_drewN ?_ _ | refine blk_drew ?_ | refine blk_alloc ?_ _)); refine blk_put (cs := #[.int .i64 0, .int .i64 0, .int .i64 0]) ?_ 0 _ rfl; (with_reducible repeat (first | refine blk_drewN ?_ _ | refine blk_drew ?_ | refine blk_alloc ?_ _)); exact BK287.out)) : gb290 ≠ gb287)); clear HO284; clear BK287; clear HB; have HO284 := n0_; have BK287 := n1_; have HB := n2_; have BK290 := n3_; have GW290 := n4_; have GE290 := n5_; have NB287_290 := n6_; have NB290_287 := n7_; clear n0_ n1_ n2_ n3_ n4_ n5_ n6_ n7_; clear hb hbox hg; have hnb29 := NB290_287.out; have hnc29 := NB287_290.out; have hcz30_0 : w28.cell? ⟨gb290, 0, none⟩ = some (.int .i64 0) := (blk_cell BK290.out 0).trans rfl; have hcz30_1 : w28.cell? ⟨gb290, 1, none⟩ = some (.int .i64 0) := (blk_cell BK290.out 1).trans rfl; have hcz30_2 : w28.cell? ⟨gb290, 2, none⟩ = some (.int .i64 0) := (blk_cell BK290.out 2).trans rfl; have hfz30_0 := blk_frozen BK290.out 0; have hfz30_1 := blk_frozen BK290.out 1; have hfz30_2 := blk_frozen BK290.out 2; have hcz31_0 : w28.cell? ⟨gb287, 0, none⟩ = some (.int .i64 ((rd_T54 y282 t285).f0)) := (blk_cell BK287.out 0).trans rfl; have hcz31_1 : w28.cell? ⟨gb287, 1, none⟩ = some (.int .i64 ((rd_T54 y282 t285).f1)) := (blk_cell BK287.out 1).trans rfl; have hcz31_2 : w28.cell? ⟨gb287, 2, none⟩ = some (.int .i64 ((rd_T54 y282 t285).f2)) := (blk_cell BK287.out 2).trans rfl; have hfz31_0 := blk_frozen BK287.out 0; have hfz31_1 := blk_frozen BK287.out 1; have hfz31_2 := blk_frozen BK287.out 2) | ((with_reducible refine gate_callee (f := 36) rfl ?_); refine goesL_ (some 54) rfl rfl Try.func36 (by kernel_rfl) rfl #[.agg #[.int .i64 ((rd_T54 y282 t285).f0), .int .i64 ((rd_T54 y282 t285).f1), .int .i64 ((rd_T54 y282 t285).f2)]] rfl (by (try simp only [List.map_toArray, List.map_cons, List.map_nil]); first | done | rfl | (simp only [List.length_drop, List.length_take]; rfl)) ?_; (with_reducible refine (life_Encode.calls ((rd_T54 y282 t285).f0) ((rd_T54 y282 t285).f1) ((rd_T54 y282 t285).f2) t291 t292 _ A18.out).mono ?_); rintro e w32 ⟨rfl, hb⟩; refine ⟨_, rfl, ?_⟩; have n0_ := Aside0.mk (Kd.R_below (by (with_reducible repeat (first | apply Kd.R_alloc | apply Kd.R_drewN | apply Kd.R_drew)); exact (Kd.R_mono (Kd.R_far (p := ⟨gb290, 2, none⟩) (Kd.R_far (p := ⟨gb290, 1, none⟩) (Kd.R_far (p := ⟨gb290, 0, none⟩) (Kd.R_mono HO284.out (fun k_ hk => (⟨hk, hk.2⟩ : _ ∧ k_ ≠ gb290))) (fun _ hk => hk.2) (.int .i64 ((rd_T54 y282 t288).f0))) (fun _ hk => hk.2) (.int .i64 ((rd_T54 y282 t288).f1))) (fun _ hk => hk.2) (.int .i64 ((rd_T54 y282 t288).f2))) (fun _ h_ => h_.1))) hb); have n1_ := Aside0.mk (blk_below (g := gb287) (o := .cells #[.int .i64 ((rd_T54 y282 t285).f0), .int .i64 ((rd_T54 y282 t285).f1), .int .i64 ((rd_T54 y282 t285).f2)] 54 (0, 0)) (by (with_reducible repeat (first | refine blk_drewN ?_ _ | refine blk_drew ?_ | refine blk_alloc ?_ _)); refine blk_far ?_ NB287_290.out _; (with_reducible repeat (first | refine blk_drewN ?_ _ | refine blk_drew ?_ | refine blk_alloc ?_ _)); refine blk_far ?_ NB287_290.out _; (with_reducible repeat (first | refine blk_drewN ?_ _ | refine blk_drew ?_ | refine blk_alloc ?_ _)); refine blk_far ?_ NB287_290.out _; (with_reducible repeat (first | refine blk_drewN ?_ _ | refine blk_drew ?_ | refine blk_alloc ?_ _)); exact BK287.out) hb); have n2_ := Aside0.mk (blk_below (g := gb290) (o := .cells #[.int .i64 ((rd_T54 y282 t288).f0), .int .i64 ((rd_T54 y282 t288).f1), .int .i64 ((rd_T54 y282 t288).f2)] 54 (0, 0)) (by (with_reducible repeat (first | refine blk_drewN ?_ _ | refine blk_drew ?_ | refine blk_alloc ?_ _)); refine blk_put (cs := #[.int .i64 ((rd_T54 y282 t288).f0), .int .i64 ((rd_T54 y282 t288).f1), .int .i64 0]) ?_ 2 _ rfl; (with_reducible repeat (first | refine blk_drewN ?_ _ | refine blk_drew ?_ | refine blk_alloc ?_ _)); refine blk_put (cs := #[.int .i64 ((rd_T54 y282 t288).f0), .int .i64 0, .int .i64 0]) ?_ 1 _ rfl; (with_reducible repeat (first | refine blk_drewN ?_ _ | refine blk_drew ?_ | refine blk_alloc ?_ _)); refine blk_put (cs := #[.int .i64 0, .int .i64 0, .int .i64 0]) ?_ 0 _ rfl; (with_reducible repeat (first | refine blk_drewN ?_ _ | refine blk_drew ?_ | refine blk_alloc ?_ _)); exact BK290.out) hb); have n3_ := Aside0.mk (below_step (by repeat (first | (with_reducible first | exact HB.out | apply below_alloc | apply pw_below_drewN | apply below_drew1 | refine below_set ?_ GE287.out | refine below_set ?_ GE290.out) | exact HB.out)) hb); clear HO284; clear BK287; clear BK290; clear HB; have HO284 := n0_; have BK287 := n1_; have BK290 := n2_; have HB := n3_; clear n0_ n1_ n2_ n3_; (try clear hb); (try clear hb2); (try clear hk); (try clear hi); have hcz33_0 : w32.cell? ⟨gb290, 0, none⟩ = some (.int .i64 ((rd_T54 y282 t288).f0)) := (blk_cell BK290.out 0).trans rfl; have hcz33_1 : w32.cell? ⟨gb290, 1, none⟩ = some (.int .i64 ((rd_T54 y282 t288).f1)) := (blk_cell BK290.out 1).trans rfl; have hcz33_2 : w32.cell? ⟨gb290, 2, none⟩ = some (.int .i64 ((rd_T54 y282 t288).f2)) := (blk_cell BK290.out 2).trans rfl; have hfz33_0 := blk_frozen BK290.out 0; have hfz33_1 := blk_frozen BK290.out 1; have hfz33_2 := blk_frozen BK290.out 2) | ((with_reducible refine gate_callee (f := 36) rfl ?_); refine goesL_ (some 59) rfl rfl Try.func36 (by kernel_rfl) rfl #[.agg #[.int .i64 ((rd_T54 y282 t288).f0), .int .i64 ((rd_T54 y282 t288).f1), .int .i64 ((rd_T54 y282 t288).f2)]] rfl (by (try simp only [List.map_toArray, List.map_cons, List.map_nil]); first | done | rfl | (simp only [List.length_drop, List.length_take]; rfl)) ?_; (with_reducible refine (life_Encode.calls ((rd_T54 y282 t288).f0) ((rd_T54 y282 t288).f1) ((rd_T54 y282 t288).f2) t293 t294 _ A19.out).mono ?_); rintro e w34 ⟨rfl, hb⟩; refine ⟨_, rfl, ?_⟩; have n0_ := Aside0.mk (Kd.R_below (by (with_reducible repeat (first | apply Kd.R_alloc | apply Kd.R_drewN | apply Kd.R_drew)); exact HO284.out) hb); have n1_ := Aside0.mk (blk_below (g := gb287) (o := .cells #[.int .i64 ((rd_T54 y282 t285).f0), .int .i64 ((rd_T54 y282 t285).f1), .int .i64 ((rd_T54 y282 t285).f2)] 54 (0, 0)) (by (with_reducible repeat (first | refine blk_drewN ?_ _ | refine blk_drew ?_ | refine blk_alloc ?_ _)); exact BK287.out) hb); have n2_ := Aside0.mk (blk_below (g := gb290) (o := .cells #[.int .i64 ((rd_T54 y282 t288).f0), .int .i64 ((rd_T54 y282 t288).f1), .int .i64 ((rd_T54 y282 t288).f2)] 54 (0, 0)) (by (with_reducible repeat (first | refine blk_drewN ?_ _ | refine blk_drew ?_ | refine blk_alloc ?_ _)); exact BK290.out) hb); have n3_ := Aside0.mk (below_step (by repeat (first | (with_reducible first | exact HB.out | apply below_alloc | apply pw_below_drewN | apply below_drew1 | refine below_set ?_ GE287.out | refine below_set ?_ GE290.out) | exact HB.out)) hb); clear HO284; clear BK287; clear BK290; clear HB; have HO284 := n0_; have BK287 := n1_; have BK290 := n2_; have HB := n3_; clear n0_ n1_ n2_ n3_; (try clear hb); (try clear hb2); (try clear hk); (try clear hi)) | ((with_reducible refine gate_callee (f := 37) rfl ?_); refine goesL_ (some 64) rfl rfl Try.func37 (by kernel_rfl) rfl #[.string t291] rfl (by (try simp only [List.map_toArray, List.map_cons, List.map_nil]); first | done | rfl | (simp only [List.length_drop, List.length_take]; rfl)) ?_; (with_reducible refine (life_Decode.calls t291 t295 t296 t297 t298 _ A20.out).mono ?_); rintro e w35 ⟨rfl, hb⟩; refine ⟨_, rfl, ?_⟩; have n0_ := Aside0.mk (Kd.R_below (by (with_reducible repeat (first | apply Kd.R_alloc | apply Kd.R_drewN | apply Kd.R_drew)); exact HO284.out) hb); have n1_ := Aside0.mk (blk_below (g := gb287) (o := .cells #[.int .i64 ((rd_T54 y282 t285).f0), .int .i64 ((rd_T54 y282 t285).f1), .int .i64 ((rd_T54 y282 t285).f2)] 54 (0, 0)) (by (with_reducible repeat (first | refine blk_drewN ?_ _ | refine blk_drew ?_ | refine blk_alloc ?_ _)); exact BK287.out) hb); have n2_ := Aside0.mk (blk_below (g := gb290) (o := .cells #[.int .i64 ((rd_T54 y282 t288).f0), .int .i64 ((rd_T54 y282 t288).f1), .int .i64 ((rd_T54 y282 t288).f2)] 54 (0, 0)) (by (with_reducible repeat (first | refine blk_drewN ?_ _ | refine blk_drew ?_ | refine blk_alloc ?_ _)); exact BK290.out) hb); have n3_ := Aside0.mk (below_step (by repeat (first | (with_reducible first | exact HB.out | apply below_alloc | apply pw_below_drewN | apply below_drew1 | refine below_set ?_ GE287.out | refine below_set ?_ GE290.out) | exact HB.out)) hb); clear HO284; clear BK287; clear BK290; clear HB; have HO284 := n0_; have BK287 := n1_; have BK290 := n2_; have HB := n3_; clear n0_ n1_ n2_ n3_; (try clear hb); (try clear hb2); (try clear hk); (try clear hi)) | ((with_reducible refine gate_dst (N := 20) rfl ?_); (try (refine gate_guard (by rfl) ?_; dsimp only)); refine box_event ?hg (N := 20) ?hd (cs := #[.int .i64 0, .int .i64 0, .int .i64 0]) (t := 54) ?hr ?_; (case hd => rfl); (case hg => rfl); (case hr => first | (go_simp; done) | (go_simp; rfl)); intro gb299 hg w36 hbox hb; have n0_ := Aside0.mk (Kd.R_below (Kd.R_elderB (by (with_reducible repeat (first | apply Kd.R_alloc | apply Kd.R_drewN | apply Kd.R_drew)); exact HO284.out) gb299 (Nat.le_of_eq hg.symm)) hb); have n1_ := Aside0.mk (blk_below (g := gb287) (o := .cells #[.int .i64 ((rd_T54 y282 t285).f0), .int .i64 ((rd_T54 y282 t285).f1), .int .i64 ((rd_T54 y282 t285).f2)] 54 (0, 0)) (by (with_reducible repeat (first | refine blk_drewN ?_ _ | refine blk_drew ?_ | refine blk_alloc ?_ _)); exact BK287.out) hb); have n2_ := Aside0.mk (blk_below (g := gb290) (o := .cells #[.int .i64 ((rd_T54 y282 t288).f0), .int .i64 ((rd_T54 y282 t288).f1), .int .i64 ((rd_T54 y282 t288).f2)] 54 (0, 0)) (by (with_reducible repeat (first | refine blk_drewN ?_ _ | refine blk_drew ?_ | refine blk_alloc ?_ _)); exact BK290.out) hb); have n3_ := Aside0.mk (below_step (by repeat (first | (with_reducible first | exact HB.out | apply below_alloc | apply pw_below_drewN | apply below_drew1 | refine below_set ?_ GE287.out | refine below_set ?_ GE290.out) | exact HB.out)) hb); have n4_ := Aside0.mk (hbox); have n5_ := Aside0.mk ((by rw [hg]; exact (below_size (by repeat (first | (with_reducible first | exact HB.out | apply below_alloc | apply pw_below_drewN | apply below_drew1 | refine below_set ?_ GE287.out | refine below_set ?_ GE290.out) | exact HB.out))) : w.heap.size ≤ gb299)); have n6_ := Aside0.mk ((by rw [hg]; exact (below_size (by repeat (first | (with_reducible first | exact HB.out | apply below_alloc | apply pw_below_drewN | apply below_drew1 | refine below_set ?_ GE287.out | refine below_set ?_ GE290.out) | exact HB.out))) : w.heap.size ≤ gb299)); have n7_ := Aside0.mk ((by rw [hg]; exact Nat.ne_of_lt (blk_lt (g := gb287) (o := .cells #[.int .i64 ((rd_T54 y282 t285).f0), .int .i64 ((rd_T54 y282 t285).f1), .int .i64 ((rd_T54 y282 t285).f2)] 54 (0, 0)) (by (with_reducible repeat (first | refine blk_drewN ?_ _ | refine blk_drew ?_ | refine blk_alloc ?_ _)); exact BK287.out)) : gb287 ≠ gb299)); have n8_ := Aside0.mk ((by rw [hg]; exact Nat.ne_of_gt (blk_lt (g := gb287) (o := .cells #[.int .i64 ((rd_T54 y282 t285).f0), .int .i64 ((rd_T54 y282 t285).f1), .int .i64 ((rd_T54 y282 t285).f2)] 54 (0, 0)) (by (with_reducible repeat (first | refine blk_drewN ?_ _ | refine blk_drew ?_ | refine blk_alloc ?_ _)); exact BK287.out)) : gb299 ≠ gb287)); have n9_ := Aside0.mk ((by rw [hg]; exact Nat.ne_of_lt (blk_lt (g := gb290) (o := .cells #[.int .i64 ((rd_T54 y282 t288).f0), .int .i64 ((rd_T54 y282 t288).f1), .int .i64 ((rd_T54 y282 t288).f2)] 54 (0, 0)) (by (with_reducible repeat (first | refine blk_drewN ?_ _ | refine blk_drew ?_ | refine blk_alloc ?_ _)); exact BK290.out)) : gb290 ≠ gb299)); have n10_ := Aside0.mk ((by rw [hg]; exact Nat.ne_of_gt (blk_lt (g := gb290) (o := .cells #[.int .i64 ((rd_T54 y282 t288).f0), .int .i64 ((rd_T54 y282 t288).f1), .int .i64 ((rd_T54 y282 t288).f2)] 54 (0, 0)) (by (with_reducible repeat (first | refine blk_drewN ?_ _ | refine blk_drew ?_ | refine blk_alloc ?_ _)); exact BK290.out)) : gb299 ≠ gb290)); clear HO284; clear BK287; clear BK290; clear HB; have HO284 := n0_; have BK287 := n1_; have BK290 := n2_; have HB := n3_; have BK299 := n4_; have GW299 := n5_; have GE299 := n6_; have NB287_299 := n7_; have NB299_287 := n8_; have NB290_299 := n9_; have NB299_290 := n10_; clear n0_ n1_ n2_ n3_ n4_ n5_ n6_ n7_ n8_ n9_ n10_; clear hb hbox hg; have hnb37 := NB299_287.out; have hnc37 := NB287_299.out; have hnb38 := NB299_290.out; have hnc38 := NB290_299.out; have hcz39_0 : w36.cell? ⟨gb299, 0, none⟩ = some (.int .i64 0) := (blk_cell BK299.out 0).trans rfl; have hcz39_1 : w36.cell? ⟨gb299, 1, none⟩ = some (.int .i64 0) := (blk_cell BK299.out 1).trans rfl; have hcz39_2 : w36.cell? ⟨gb299, 2, none⟩ = some (.int .i64 0) := (blk_cell BK299.out 2).trans rfl; have hfz39_0 := blk_frozen BK299.out 0; have hfz39_1 := blk_frozen BK299.out 1; have hfz39_2 := blk_frozen BK299.out 2))
              (try simp only [Act.put, List.setIfInBounds_toArray, List.set_cons_zero, List.set_cons_succ])
              go_cut [95] (fun v95 wc => ∃ (kq : Nat) (x95_20 : Bool), v95 = .bool x95_20 ∧ Aside0 (dialtonelaw14_LifeDecodes.j0 kq a3 a4 a5 t291 t293 x95_20 = some r) ∧ Aside0 (kq ≤ k) ∧ Aside0 (wc.heap[gb287]? = some (.cells #[.int .i64 ((rd_T54 y282 t285).f0), .int .i64 ((rd_T54 y282 t285).f1), .int .i64 ((rd_T54 y282 t285).f2)] 54 (0, 0))) ∧ Aside0 (wc.heap[gb290]? = some (.cells #[.int .i64 ((rd_T54 y282 t288).f0), .int .i64 ((rd_T54 y282 t288).f1), .int .i64 ((rd_T54 y282 t288).f2)] 54 (0, 0))) ∧ Aside0 (wc.heap[gb299]? = some (.cells #[.int .i64 t295, .int .i64 t296, .int .i64 t297] 54 (0, 0))) ∧ Aside0 (Below w.heap.size w wc))
              case first =>
                have H := HC21.out
                clear HC21
                by_cases c40 : t292 = 0
                · rw [if_pos c40] at H
                  have c40b0 : (t292 == 0) = true := beq_iff_eq.mpr c40
                  have c40b1 : (t292 != 0) = false := bne_eq_false_iff_eq.mpr c40
                  clear c40
                  (first | rw [c40b0] | (simp only [i64_w, i32_w]; rw [c40b0]) | rw [c40b1] | skip)
                  by_cases c41 : t294 = 0
                  · rw [if_pos c41] at H
                    have c41b0 : (t294 == 0) = true := beq_iff_eq.mpr c41
                    have c41b1 : (t294 != 0) = false := bne_eq_false_iff_eq.mpr c41
                    clear c41
                    by_cases c42 : t298 = 0
                    · rw [if_pos c42] at H
                      have c42b0 : (t298 == 0) = true := beq_iff_eq.mpr c42
                      have c42b1 : (t298 != 0) = false := bne_eq_false_iff_eq.mpr c42
                      clear c42
                      by_cases c43 : (!(t295 == ((rd_T54 y282 t285).f0)) || (!(t296 == ((rd_T54 y282 t285).f1)) || (!(t297 == ((rd_T54 y282 t285).f2))))) = true
                      · rw [if_pos c43] at H
                        have c43b0 : (!(t295 == ((rd_T54 y282 t285).f0)) || (!(t296 == ((rd_T54 y282 t285).f1)) || (!(t297 == ((rd_T54 y282 t285).f2))))) = true := c43
                        clear c43
                        have H' := Aside0.mk H
                        clear H
                        have hnb44 := NB299_287.out
                        have hnc44 := NB287_299.out
                        have hnb45 := NB299_290.out
                        have hnc45 := NB290_299.out
                        have hcz46_0 : w36.cell? ⟨gb299, 0, none⟩ = some (.int .i64 0) := (blk_cell BK299.out 0).trans rfl
                        have hcz46_1 : w36.cell? ⟨gb299, 1, none⟩ = some (.int .i64 0) := (blk_cell BK299.out 1).trans rfl
                        have hcz46_2 : w36.cell? ⟨gb299, 2, none⟩ = some (.int .i64 0) := (blk_cell BK299.out 2).trans rfl
                        have hfz46_0 := blk_frozen BK299.out 0
                        have hfz46_1 := blk_frozen BK299.out 1
                        have hfz46_2 := blk_frozen BK299.out 2
                        have hnb47 := NB287_290.out
                        have hnc47 := NB290_287.out
                        have hcz48_0 : w36.cell? ⟨gb287, 0, none⟩ = some (.int .i64 ((rd_T54 y282 t285).f0)) := (blk_cell BK287.out 0).trans rfl
                        have hcz48_1 : w36.cell? ⟨gb287, 1, none⟩ = some (.int .i64 ((rd_T54 y282 t285).f1)) := (blk_cell BK287.out 1).trans rfl
                        have hcz48_2 : w36.cell? ⟨gb287, 2, none⟩ = some (.int .i64 ((rd_T54 y282 t285).f2)) := (blk_cell BK287.out 2).trans rfl
                        have hfz48_0 := blk_frozen BK287.out 0
                        have hfz48_1 := blk_frozen BK287.out 1
                        have hfz48_2 := blk_frozen BK287.out 2
                        go_wp2
                        go_meet
                        case rel => exact ⟨_, (true), (by first | rfl | (simp; done) | (simp [*]; done)), H', ⟨by first | omega | exact Nat.le_refl _⟩, ⟨by (with_reducible repeat (first | refine blk_drewN ?_ _ | refine blk_drew ?_ | refine blk_alloc ?_ _)); refine blk_far ?_ NB287_299.out _; (with_reducible repeat (first | refine blk_drewN ?_ _ | refine blk_drew ?_ | refine blk_alloc ?_ _)); refine blk_far ?_ NB287_299.out _; (with_reducible repeat (first | refine blk_drewN ?_ _ | refine blk_drew ?_ | refine blk_alloc ?_ _)); refine blk_far ?_ NB287_299.out _; (with_reducible repeat (first | refine blk_drewN ?_ _ | refine blk_drew ?_ | refine blk_alloc ?_ _)); exact BK287.out⟩, ⟨by (with_reducible repeat (first | refine blk_drewN ?_ _ | refine blk_drew ?_ | refine blk_alloc ?_ _)); refine blk_far ?_ NB290_299.out _; (with_reducible repeat (first | refine blk_drewN ?_ _ | refine blk_drew ?_ | refine blk_alloc ?_ _)); refine blk_far ?_ NB290_299.out _; (with_reducible repeat (first | refine blk_drewN ?_ _ | refine blk_drew ?_ | refine blk_alloc ?_ _)); refine blk_far ?_ NB290_299.out _; (with_reducible repeat (first | refine blk_drewN ?_ _ | refine blk_drew ?_ | refine blk_alloc ?_ _)); exact BK290.out⟩, ⟨by (with_reducible repeat (first | refine blk_drewN ?_ _ | refine blk_drew ?_ | refine blk_alloc ?_ _)); refine blk_put (cs := #[.int .i64 t295, .int .i64 t296, .int .i64 0]) ?_ 2 _ rfl; (with_reducible repeat (first | refine blk_drewN ?_ _ | refine blk_drew ?_ | refine blk_alloc ?_ _)); refine blk_put (cs := #[.int .i64 t295, .int .i64 0, .int .i64 0]) ?_ 1 _ rfl; (with_reducible repeat (first | refine blk_drewN ?_ _ | refine blk_drew ?_ | refine blk_alloc ?_ _)); refine blk_put (cs := #[.int .i64 0, .int .i64 0, .int .i64 0]) ?_ 0 _ rfl; (with_reducible repeat (first | refine blk_drewN ?_ _ | refine blk_drew ?_ | refine blk_alloc ?_ _)); exact BK299.out⟩, ⟨by repeat (first | (with_reducible first | exact HB.out | apply below_alloc | apply pw_below_drewN | apply below_drew1 | refine below_set ?_ GE287.out | refine below_set ?_ GE290.out | refine below_set ?_ GE299.out) | exact HB.out)⟩⟩
                      · rw [if_neg c43] at H
                        have c43b0 : (!(t295 == ((rd_T54 y282 t285).f0)) || (!(t296 == ((rd_T54 y282 t285).f1)) || (!(t297 == ((rd_T54 y282 t285).f2))))) = false := by simpa using c43
                        clear c43
                        by_cases c49 : t291.toList = t293.toList
                        · rw [if_pos c49] at H
                          have c49b0 : (t291.toList == t293.toList) = true := beq_iff_eq.mpr c49
                          have c49b1 : (t291.toList != t293.toList) = false := bne_eq_false_iff_eq.mpr c49
                          clear c49
                          by_cases c50 : ((((rd_T54 y282 t285).f0) == ((rd_T54 y282 t288).f0) && (((rd_T54 y282 t285).f1) == ((rd_T54 y282 t288).f1) && (((rd_T54 y282 t285).f2) == ((rd_T54 y282 t288).f2)))) = true)
                          · rw [if_pos c50] at H
                            have c50b0 : (((rd_T54 y282 t285).f0) == ((rd_T54 y282 t288).f0) && (((rd_T54 y282 t285).f1) == ((rd_T54 y282 t288).f1) && (((rd_T54 y282 t285).f2) == ((rd_T54 y282 t288).f2)))) = true := c50
                            (try (have c50b1 : decide (((rd_T54 y282 t285).f0) = ((rd_T54 y282 t288).f0) && (((rd_T54 y282 t285).f1) == ((rd_T54 y282 t288).f1) && (((rd_T54 y282 t285).f2) == ((rd_T54 y282 t288).f2)))) = true := by simpa using c50))
                            (try (have c50b2 : (((rd_T54 y282 t285).f0) == ((rd_T54 y282 t288).f0) && (((rd_T54 y282 t285).f1) == ((rd_T54 y282 t288).f1) && (((rd_T54 y282 t285).f2) == ((rd_T54 y282 t288).f2)))) = true := by simpa using c50))
                            clear c50
                            have H' := Aside0.mk H
                            clear H
                            have hnb51 := NB299_287.out
                            have hnc51 := NB287_299.out
                            have hnb52 := NB299_290.out
                            have hnc52 := NB290_299.out
                            have hcz53_0 : w36.cell? ⟨gb299, 0, none⟩ = some (.int .i64 0) := (blk_cell BK299.out 0).trans rfl
                            have hcz53_1 : w36.cell? ⟨gb299, 1, none⟩ = some (.int .i64 0) := (blk_cell BK299.out 1).trans rfl
                            have hcz53_2 : w36.cell? ⟨gb299, 2, none⟩ = some (.int .i64 0) := (blk_cell BK299.out 2).trans rfl
                            have hfz53_0 := blk_frozen BK299.out 0
                            have hfz53_1 := blk_frozen BK299.out 1
                            have hfz53_2 := blk_frozen BK299.out 2
                            have hnb54 := NB287_290.out
                            have hnc54 := NB290_287.out
                            have hcz55_0 : w36.cell? ⟨gb287, 0, none⟩ = some (.int .i64 ((rd_T54 y282 t285).f0)) := (blk_cell BK287.out 0).trans rfl
                            have hcz55_1 : w36.cell? ⟨gb287, 1, none⟩ = some (.int .i64 ((rd_T54 y282 t285).f1)) := (blk_cell BK287.out 1).trans rfl
                            have hcz55_2 : w36.cell? ⟨gb287, 2, none⟩ = some (.int .i64 ((rd_T54 y282 t285).f2)) := (blk_cell BK287.out 2).trans rfl
                            have hfz55_0 := blk_frozen BK287.out 0
                            have hfz55_1 := blk_frozen BK287.out 1
                            have hfz55_2 := blk_frozen BK287.out 2
                            have hcz56_0 : w36.cell? ⟨gb290, 0, none⟩ = some (.int .i64 ((rd_T54 y282 t288).f0)) := (blk_cell BK290.out 0).trans rfl
                            have hcz56_1 : w36.cell? ⟨gb290, 1, none⟩ = some (.int .i64 ((rd_T54 y282 t288).f1)) := (blk_cell BK290.out 1).trans rfl
                            have hcz56_2 : w36.cell? ⟨gb290, 2, none⟩ = some (.int .i64 ((rd_T54 y282 t288).f2)) := (blk_cell BK290.out 2).trans rfl
                            have hfz56_0 := blk_frozen BK290.out 0
                            have hfz56_1 := blk_frozen BK290.out 1
                            have hfz56_2 := blk_frozen BK290.out 2
                            go_wp2
                            go_meet
                            case rel => exact ⟨_, (((t291.size : Int) == 0)), (by first | rfl | (simp; done) | (simp [*]; done)), H', ⟨by first | omega | exact Nat.le_refl _⟩, ⟨by (with_reducible repeat (first | refine blk_drewN ?_ _ | refine blk_drew ?_ | refine blk_alloc ?_ _)); refine blk_far ?_ NB287_299.out _; (with_reducible repeat (first | refine blk_drewN ?_ _ | refine blk_drew ?_ | refine blk_alloc ?_ _)); refine blk_far ?_ NB287_299.out _; (with_reducible repeat (first | refine blk_drewN ?_ _ | refine blk_drew ?_ | refine blk_alloc ?_ _)); refine blk_far ?_ NB287_299.out _; (with_reducible repeat (first | refine blk_drewN ?_ _ | refine blk_drew ?_ | refine blk_alloc ?_ _)); exact BK287.out⟩, ⟨by (with_reducible repeat (first | refine blk_drewN ?_ _ | refine blk_drew ?_ | refine blk_alloc ?_ _)); refine blk_far ?_ NB290_299.out _; (with_reducible repeat (first | refine blk_drewN ?_ _ | refine blk_drew ?_ | refine blk_alloc ?_ _)); refine blk_far ?_ NB290_299.out _; (with_reducible repeat (first | refine blk_drewN ?_ _ | refine blk_drew ?_ | refine blk_alloc ?_ _)); refine blk_far ?_ NB290_299.out _; (with_reducible repeat (first | refine blk_drewN ?_ _ | refine blk_drew ?_ | refine blk_alloc ?_ _)); exact BK290.out⟩, ⟨by (with_reducible repeat (first | refine blk_drewN ?_ _ | refine blk_drew ?_ | refine blk_alloc ?_ _)); refine blk_put (cs := #[.int .i64 t295, .int .i64 t296, .int .i64 0]) ?_ 2 _ rfl; (with_reducible repeat (first | refine blk_drewN ?_ _ | refine blk_drew ?_ | refine blk_alloc ?_ _)); refine blk_put (cs := #[.int .i64 t295, .int .i64 0, .int .i64 0]) ?_ 1 _ rfl; (with_reducible repeat (first | refine blk_drewN ?_ _ | refine blk_drew ?_ | refine blk_alloc ?_ _)); refine blk_put (cs := #[.int .i64 0, .int .i64 0, .int .i64 0]) ?_ 0 _ rfl; (with_reducible repeat (first | refine blk_drewN ?_ _ | refine blk_drew ?_ | refine blk_alloc ?_ _)); exact BK299.out⟩, ⟨by repeat (first | (with_reducible first | exact HB.out | apply below_alloc | apply pw_below_drewN | apply below_drew1 | refine below_set ?_ GE287.out | refine below_set ?_ GE290.out | refine below_set ?_ GE299.out) | exact HB.out)⟩⟩
                          · rw [if_neg c50] at H
                            have c50b0 : (((rd_T54 y282 t285).f0) == ((rd_T54 y282 t288).f0) && (((rd_T54 y282 t285).f1) == ((rd_T54 y282 t288).f1) && (((rd_T54 y282 t285).f2) == ((rd_T54 y282 t288).f2)))) = false := by simpa using c50
                            (try (have c50b1 : decide (((rd_T54 y282 t285).f0) = ((rd_T54 y282 t288).f0) && (((rd_T54 y282 t285).f1) == ((rd_T54 y282 t288).f1) && (((rd_T54 y282 t285).f2) == ((rd_T54 y282 t288).f2)))) = false := by simpa using c50))
                            (try (have c50b2 : (((rd_T54 y282 t285).f0) == ((rd_T54 y282 t288).f0) && (((rd_T54 y282 t285).f1) == ((rd_T54 y282 t288).f1) && (((rd_T54 y282 t285).f2) == ((rd_T54 y282 t288).f2)))) = false := by simpa using c50))
                            (try (have c50b3 : ¬ (((rd_T54 y282 t285).f0) = ((rd_T54 y282 t288).f0) && (((rd_T54 y282 t285).f1) == ((rd_T54 y282 t288).f1) && (((rd_T54 y282 t285).f2) == ((rd_T54 y282 t288).f2)))) := by simpa using c50))
                            clear c50
                            have H' := Aside0.mk H
                            clear H
                            have hnb57 := NB299_287.out
                            have hnc57 := NB287_299.out
                            have hnb58 := NB299_290.out
                            have hnc58 := NB290_299.out
                            have hcz59_0 : w36.cell? ⟨gb299, 0, none⟩ = some (.int .i64 0) := (blk_cell BK299.out 0).trans rfl
                            have hcz59_1 : w36.cell? ⟨gb299, 1, none⟩ = some (.int .i64 0) := (blk_cell BK299.out 1).trans rfl
                            have hcz59_2 : w36.cell? ⟨gb299, 2, none⟩ = some (.int .i64 0) := (blk_cell BK299.out 2).trans rfl
                            have hfz59_0 := blk_frozen BK299.out 0
                            have hfz59_1 := blk_frozen BK299.out 1
                            have hfz59_2 := blk_frozen BK299.out 2
                            have hnb60 := NB287_290.out
                            have hnc60 := NB290_287.out
                            have hcz61_0 : w36.cell? ⟨gb287, 0, none⟩ = some (.int .i64 ((rd_T54 y282 t285).f0)) := (blk_cell BK287.out 0).trans rfl
                            have hcz61_1 : w36.cell? ⟨gb287, 1, none⟩ = some (.int .i64 ((rd_T54 y282 t285).f1)) := (blk_cell BK287.out 1).trans rfl
                            have hcz61_2 : w36.cell? ⟨gb287, 2, none⟩ = some (.int .i64 ((rd_T54 y282 t285).f2)) := (blk_cell BK287.out 2).trans rfl
                            have hfz61_0 := blk_frozen BK287.out 0
                            have hfz61_1 := blk_frozen BK287.out 1
                            have hfz61_2 := blk_frozen BK287.out 2
                            have hcz62_0 : w36.cell? ⟨gb290, 0, none⟩ = some (.int .i64 ((rd_T54 y282 t288).f0)) := (blk_cell BK290.out 0).trans rfl
                            have hcz62_1 : w36.cell? ⟨gb290, 1, none⟩ = some (.int .i64 ((rd_T54 y282 t288).f1)) := (blk_cell BK290.out 1).trans rfl
                            have hcz62_2 : w36.cell? ⟨gb290, 2, none⟩ = some (.int .i64 ((rd_T54 y282 t288).f2)) := (blk_cell BK290.out 2).trans rfl
                            have hfz62_0 := blk_frozen BK290.out 0
                            have hfz62_1 := blk_frozen BK290.out 1
                            have hfz62_2 := blk_frozen BK290.out 2
                            go_wp2
                            go_meet
                            case rel => exact ⟨_, (true), (by first | rfl | (simp; done) | (simp [*]; done)), H', ⟨by first | omega | exact Nat.le_refl _⟩, ⟨by (with_reducible repeat (first | refine blk_drewN ?_ _ | refine blk_drew ?_ | refine blk_alloc ?_ _)); refine blk_far ?_ NB287_299.out _; (with_reducible repeat (first | refine blk_drewN ?_ _ | refine blk_drew ?_ | refine blk_alloc ?_ _)); refine blk_far ?_ NB287_299.out _; (with_reducible repeat (first | refine blk_drewN ?_ _ | refine blk_drew ?_ | refine blk_alloc ?_ _)); refine blk_far ?_ NB287_299.out _; (with_reducible repeat (first | refine blk_drewN ?_ _ | refine blk_drew ?_ | refine blk_alloc ?_ _)); exact BK287.out⟩, ⟨by (with_reducible repeat (first | refine blk_drewN ?_ _ | refine blk_drew ?_ | refine blk_alloc ?_ _)); refine blk_far ?_ NB290_299.out _; (with_reducible repeat (first | refine blk_drewN ?_ _ | refine blk_drew ?_ | refine blk_alloc ?_ _)); refine blk_far ?_ NB290_299.out _; (with_reducible repeat (first | refine blk_drewN ?_ _ | refine blk_drew ?_ | refine blk_alloc ?_ _)); refine blk_far ?_ NB290_299.out _; (with_reducible repeat (first | refine blk_drewN ?_ _ | refine blk_drew ?_ | refine blk_alloc ?_ _)); exact BK290.out⟩, ⟨by (with_reducible repeat (first | refine blk_drewN ?_ _ | refine blk_drew ?_ | refine blk_alloc ?_ _)); refine blk_put (cs := #[.int .i64 t295, .int .i64 t296, .int .i64 0]) ?_ 2 _ rfl; (with_reducible repeat (first | refine blk_drewN ?_ _ | refine blk_drew ?_ | refine blk_alloc ?_ _)); refine blk_put (cs := #[.int .i64 t295, .int .i64 0, .int .i64 0]) ?_ 1 _ rfl; (with_reducible repeat (first | refine blk_drewN ?_ _ | refine blk_drew ?_ | refine blk_alloc ?_ _)); refine blk_put (cs := #[.int .i64 0, .int .i64 0, .int .i64 0]) ?_ 0 _ rfl; (with_reducible repeat (first | refine blk_drewN ?_ _ | refine blk_drew ?_ | refine blk_alloc ?_ _)); exact BK299.out⟩, ⟨by repeat (first | (with_reducible first | exact HB.out | apply below_alloc | apply pw_below_drewN | apply below_drew1 | refine below_set ?_ GE287.out | refine below_set ?_ GE290.out | refine below_set ?_ GE299.out) | exact HB.out)⟩⟩
                        · rw [if_neg c49] at H
                          have c49b0 : (t291.toList == t293.toList) = false := beq_eq_false_iff_ne.mpr c49
                          have c49b1 : (t291.toList != t293.toList) = true := bne_iff_ne.mpr c49
                          by_cases c63 : (((rd_T54 y282 t285).f0) == ((rd_T54 y282 t288).f0) && (((rd_T54 y282 t285).f1) == ((rd_T54 y282 t288).f1) && (((rd_T54 y282 t285).f2) == ((rd_T54 y282 t288).f2)))) = true
                          · rw [if_pos c63] at H
                            have c63b0 : (((rd_T54 y282 t285).f0) == ((rd_T54 y282 t288).f0) && (((rd_T54 y282 t285).f1) == ((rd_T54 y282 t288).f1) && (((rd_T54 y282 t285).f2) == ((rd_T54 y282 t288).f2)))) = true := c63
                            (try (have c63b1 : decide (((rd_T54 y282 t285).f0) = ((rd_T54 y282 t288).f0) && (((rd_T54 y282 t285).f1) == ((rd_T54 y282 t288).f1) && (((rd_T54 y282 t285).f2) == ((rd_T54 y282 t288).f2)))) = true := by simpa using c63))
                            (try (have c63b2 : (((rd_T54 y282 t285).f0) == ((rd_T54 y282 t288).f0) && (((rd_T54 y282 t285).f1) == ((rd_T54 y282 t288).f1) && (((rd_T54 y282 t285).f2) == ((rd_T54 y282 t288).f2)))) = true := by simpa using c63))
                            clear c63
                            have H' := Aside0.mk H
                            clear H
                            have hnb64 := NB299_287.out
                            have hnc64 := NB287_299.out
                            have hnb65 := NB299_290.out
                            have hnc65 := NB290_299.out
                            have hcz66_0 : w36.cell? ⟨gb299, 0, none⟩ = some (.int .i64 0) := (blk_cell BK299.out 0).trans rfl
                            have hcz66_1 : w36.cell? ⟨gb299, 1, none⟩ = some (.int .i64 0) := (blk_cell BK299.out 1).trans rfl
                            have hcz66_2 : w36.cell? ⟨gb299, 2, none⟩ = some (.int .i64 0) := (blk_cell BK299.out 2).trans rfl
                            have hfz66_0 := blk_frozen BK299.out 0
                            have hfz66_1 := blk_frozen BK299.out 1
                            have hfz66_2 := blk_frozen BK299.out 2
                            have hnb67 := NB287_290.out
                            have hnc67 := NB290_287.out
                            have hcz68_0 : w36.cell? ⟨gb287, 0, none⟩ = some (.int .i64 ((rd_T54 y282 t285).f0)) := (blk_cell BK287.out 0).trans rfl
                            have hcz68_1 : w36.cell? ⟨gb287, 1, none⟩ = some (.int .i64 ((rd_T54 y282 t285).f1)) := (blk_cell BK287.out 1).trans rfl
                            have hcz68_2 : w36.cell? ⟨gb287, 2, none⟩ = some (.int .i64 ((rd_T54 y282 t285).f2)) := (blk_cell BK287.out 2).trans rfl
                            have hfz68_0 := blk_frozen BK287.out 0
                            have hfz68_1 := blk_frozen BK287.out 1
                            have hfz68_2 := blk_frozen BK287.out 2
                            have hcz69_0 : w36.cell? ⟨gb290, 0, none⟩ = some (.int .i64 ((rd_T54 y282 t288).f0)) := (blk_cell BK290.out 0).trans rfl
                            have hcz69_1 : w36.cell? ⟨gb290, 1, none⟩ = some (.int .i64 ((rd_T54 y282 t288).f1)) := (blk_cell BK290.out 1).trans rfl
                            have hcz69_2 : w36.cell? ⟨gb290, 2, none⟩ = some (.int .i64 ((rd_T54 y282 t288).f2)) := (blk_cell BK290.out 2).trans rfl
                            have hfz69_0 := blk_frozen BK290.out 0
                            have hfz69_1 := blk_frozen BK290.out 1
                            have hfz69_2 := blk_frozen BK290.out 2
                            go_wp2
                            go_meet
                            case rel => exact ⟨_, (true), (by first | rfl | (simp; done) | (simp [*]; done)), H', ⟨by first | omega | exact Nat.le_refl _⟩, ⟨by (with_reducible repeat (first | refine blk_drewN ?_ _ | refine blk_drew ?_ | refine blk_alloc ?_ _)); refine blk_far ?_ NB287_299.out _; (with_reducible repeat (first | refine blk_drewN ?_ _ | refine blk_drew ?_ | refine blk_alloc ?_ _)); refine blk_far ?_ NB287_299.out _; (with_reducible repeat (first | refine blk_drewN ?_ _ | refine blk_drew ?_ | refine blk_alloc ?_ _)); refine blk_far ?_ NB287_299.out _; (with_reducible repeat (first | refine blk_drewN ?_ _ | refine blk_drew ?_ | refine blk_alloc ?_ _)); exact BK287.out⟩, ⟨by (with_reducible repeat (first | refine blk_drewN ?_ _ | refine blk_drew ?_ | refine blk_alloc ?_ _)); refine blk_far ?_ NB290_299.out _; (with_reducible repeat (first | refine blk_drewN ?_ _ | refine blk_drew ?_ | refine blk_alloc ?_ _)); refine blk_far ?_ NB290_299.out _; (with_reducible repeat (first | refine blk_drewN ?_ _ | refine blk_drew ?_ | refine blk_alloc ?_ _)); refine blk_far ?_ NB290_299.out _; (with_reducible repeat (first | refine blk_drewN ?_ _ | refine blk_drew ?_ | refine blk_alloc ?_ _)); exact BK290.out⟩, ⟨by (with_reducible repeat (first | refine blk_drewN ?_ _ | refine blk_drew ?_ | refine blk_alloc ?_ _)); refine blk_put (cs := #[.int .i64 t295, .int .i64 t296, .int .i64 0]) ?_ 2 _ rfl; (with_reducible repeat (first | refine blk_drewN ?_ _ | refine blk_drew ?_ | refine blk_alloc ?_ _)); refine blk_put (cs := #[.int .i64 t295, .int .i64 0, .int .i64 0]) ?_ 1 _ rfl; (with_reducible repeat (first | refine blk_drewN ?_ _ | refine blk_drew ?_ | refine blk_alloc ?_ _)); refine blk_put (cs := #[.int .i64 0, .int .i64 0, .int .i64 0]) ?_ 0 _ rfl; (with_reducible repeat (first | refine blk_drewN ?_ _ | refine blk_drew ?_ | refine blk_alloc ?_ _)); exact BK299.out⟩, ⟨by repeat (first | (with_reducible first | exact HB.out | apply below_alloc | apply pw_below_drewN | apply below_drew1 | refine below_set ?_ GE287.out | refine below_set ?_ GE290.out | refine below_set ?_ GE299.out) | exact HB.out)⟩⟩
                          · rw [if_neg c63] at H
                            have c63b0 : (((rd_T54 y282 t285).f0) == ((rd_T54 y282 t288).f0) && (((rd_T54 y282 t285).f1) == ((rd_T54 y282 t288).f1) && (((rd_T54 y282 t285).f2) == ((rd_T54 y282 t288).f2)))) = false := by simpa using c63
                            (try (have c63b1 : decide (((rd_T54 y282 t285).f0) = ((rd_T54 y282 t288).f0) && (((rd_T54 y282 t285).f1) == ((rd_T54 y282 t288).f1) && (((rd_T54 y282 t285).f2) == ((rd_T54 y282 t288).f2)))) = false := by simpa using c63))
                            (try (have c63b2 : (((rd_T54 y282 t285).f0) == ((rd_T54 y282 t288).f0) && (((rd_T54 y282 t285).f1) == ((rd_T54 y282 t288).f1) && (((rd_T54 y282 t285).f2) == ((rd_T54 y282 t288).f2)))) = false := by simpa using c63))
                            (try (have c63b3 : ¬ (((rd_T54 y282 t285).f0) = ((rd_T54 y282 t288).f0) && (((rd_T54 y282 t285).f1) == ((rd_T54 y282 t288).f1) && (((rd_T54 y282 t285).f2) == ((rd_T54 y282 t288).f2)))) := by simpa using c63))
                            clear c63
                            have H' := Aside0.mk H
                            clear H
                            have hnb70 := NB299_287.out
                            have hnc70 := NB287_299.out
                            have hnb71 := NB299_290.out
                            have hnc71 := NB290_299.out
                            have hcz72_0 : w36.cell? ⟨gb299, 0, none⟩ = some (.int .i64 0) := (blk_cell BK299.out 0).trans rfl
                            have hcz72_1 : w36.cell? ⟨gb299, 1, none⟩ = some (.int .i64 0) := (blk_cell BK299.out 1).trans rfl
                            have hcz72_2 : w36.cell? ⟨gb299, 2, none⟩ = some (.int .i64 0) := (blk_cell BK299.out 2).trans rfl
                            have hfz72_0 := blk_frozen BK299.out 0
                            have hfz72_1 := blk_frozen BK299.out 1
                            have hfz72_2 := blk_frozen BK299.out 2
                            have hnb73 := NB287_290.out
                            have hnc73 := NB290_287.out
                            have hcz74_0 : w36.cell? ⟨gb287, 0, none⟩ = some (.int .i64 ((rd_T54 y282 t285).f0)) := (blk_cell BK287.out 0).trans rfl
                            have hcz74_1 : w36.cell? ⟨gb287, 1, none⟩ = some (.int .i64 ((rd_T54 y282 t285).f1)) := (blk_cell BK287.out 1).trans rfl
                            have hcz74_2 : w36.cell? ⟨gb287, 2, none⟩ = some (.int .i64 ((rd_T54 y282 t285).f2)) := (blk_cell BK287.out 2).trans rfl
                            have hfz74_0 := blk_frozen BK287.out 0
                            have hfz74_1 := blk_frozen BK287.out 1
                            have hfz74_2 := blk_frozen BK287.out 2
                            have hcz75_0 : w36.cell? ⟨gb290, 0, none⟩ = some (.int .i64 ((rd_T54 y282 t288).f0)) := (blk_cell BK290.out 0).trans rfl
                            have hcz75_1 : w36.cell? ⟨gb290, 1, none⟩ = some (.int .i64 ((rd_T54 y282 t288).f1)) := (blk_cell BK290.out 1).trans rfl
                            have hcz75_2 : w36.cell? ⟨gb290, 2, none⟩ = some (.int .i64 ((rd_T54 y282 t288).f2)) := (blk_cell BK290.out 2).trans rfl
                            have hfz75_0 := blk_frozen BK290.out 0
                            have hfz75_1 := blk_frozen BK290.out 1
                            have hfz75_2 := blk_frozen BK290.out 2
                            go_wp2
                            go_meet
                            case rel => exact ⟨_, (((t291.size : Int) == 0)), (by first | rfl | (simp; done) | (simp [*]; done)), H', ⟨by first | omega | exact Nat.le_refl _⟩, ⟨by (with_reducible repeat (first | refine blk_drewN ?_ _ | refine blk_drew ?_ | refine blk_alloc ?_ _)); refine blk_far ?_ NB287_299.out _; (with_reducible repeat (first | refine blk_drewN ?_ _ | refine blk_drew ?_ | refine blk_alloc ?_ _)); refine blk_far ?_ NB287_299.out _; (with_reducible repeat (first | refine blk_drewN ?_ _ | refine blk_drew ?_ | refine blk_alloc ?_ _)); refine blk_far ?_ NB287_299.out _; (with_reducible repeat (first | refine blk_drewN ?_ _ | refine blk_drew ?_ | refine blk_alloc ?_ _)); exact BK287.out⟩, ⟨by (with_reducible repeat (first | refine blk_drewN ?_ _ | refine blk_drew ?_ | refine blk_alloc ?_ _)); refine blk_far ?_ NB290_299.out _; (with_reducible repeat (first | refine blk_drewN ?_ _ | refine blk_drew ?_ | refine blk_alloc ?_ _)); refine blk_far ?_ NB290_299.out _; (with_reducible repeat (first | refine blk_drewN ?_ _ | refine blk_drew ?_ | refine blk_alloc ?_ _)); refine blk_far ?_ NB290_299.out _; (with_reducible repeat (first | refine blk_drewN ?_ _ | refine blk_drew ?_ | refine blk_alloc ?_ _)); exact BK290.out⟩, ⟨by (with_reducible repeat (first | refine blk_drewN ?_ _ | refine blk_drew ?_ | refine blk_alloc ?_ _)); refine blk_put (cs := #[.int .i64 t295, .int .i64 t296, .int .i64 0]) ?_ 2 _ rfl; (with_reducible repeat (first | refine blk_drewN ?_ _ | refine blk_drew ?_ | refine blk_alloc ?_ _)); refine blk_put (cs := #[.int .i64 t295, .int .i64 0, .int .i64 0]) ?_ 1 _ rfl; (with_reducible repeat (first | refine blk_drewN ?_ _ | refine blk_drew ?_ | refine blk_alloc ?_ _)); refine blk_put (cs := #[.int .i64 0, .int .i64 0, .int .i64 0]) ?_ 0 _ rfl; (with_reducible repeat (first | refine blk_drewN ?_ _ | refine blk_drew ?_ | refine blk_alloc ?_ _)); exact BK299.out⟩, ⟨by repeat (first | (with_reducible first | exact HB.out | apply below_alloc | apply pw_below_drewN | apply below_drew1 | refine below_set ?_ GE287.out | refine below_set ?_ GE290.out | refine below_set ?_ GE299.out) | exact HB.out)⟩⟩
                    · rw [if_neg c42] at H
                      have c42b0 : (t298 == 0) = false := beq_eq_false_iff_ne.mpr c42
                      have c42b1 : (t298 != 0) = true := bne_iff_ne.mpr c42
                      have H' := Aside0.mk H
                      clear H
                      go_wp2
                      go_meet
                      case rel => exact ⟨_, (true), (by first | rfl | (simp; done) | (simp [*]; done)), H', ⟨by first | omega | exact Nat.le_refl _⟩, ⟨by (with_reducible repeat (first | refine blk_drewN ?_ _ | refine blk_drew ?_ | refine blk_alloc ?_ _)); refine blk_far ?_ NB287_299.out _; (with_reducible repeat (first | refine blk_drewN ?_ _ | refine blk_drew ?_ | refine blk_alloc ?_ _)); refine blk_far ?_ NB287_299.out _; (with_reducible repeat (first | refine blk_drewN ?_ _ | refine blk_drew ?_ | refine blk_alloc ?_ _)); refine blk_far ?_ NB287_299.out _; (with_reducible repeat (first | refine blk_drewN ?_ _ | refine blk_drew ?_ | refine blk_alloc ?_ _)); exact BK287.out⟩, ⟨by (with_reducible repeat (first | refine blk_drewN ?_ _ | refine blk_drew ?_ | refine blk_alloc ?_ _)); refine blk_far ?_ NB290_299.out _; (with_reducible repeat (first | refine blk_drewN ?_ _ | refine blk_drew ?_ | refine blk_alloc ?_ _)); refine blk_far ?_ NB290_299.out _; (with_reducible repeat (first | refine blk_drewN ?_ _ | refine blk_drew ?_ | refine blk_alloc ?_ _)); refine blk_far ?_ NB290_299.out _; (with_reducible repeat (first | refine blk_drewN ?_ _ | refine blk_drew ?_ | refine blk_alloc ?_ _)); exact BK290.out⟩, ⟨by (with_reducible repeat (first | refine blk_drewN ?_ _ | refine blk_drew ?_ | refine blk_alloc ?_ _)); refine blk_put (cs := #[.int .i64 t295, .int .i64 t296, .int .i64 0]) ?_ 2 _ rfl; (with_reducible repeat (first | refine blk_drewN ?_ _ | refine blk_drew ?_ | refine blk_alloc ?_ _)); refine blk_put (cs := #[.int .i64 t295, .int .i64 0, .int .i64 0]) ?_ 1 _ rfl; (with_reducible repeat (first | refine blk_drewN ?_ _ | refine blk_drew ?_ | refine blk_alloc ?_ _)); refine blk_put (cs := #[.int .i64 0, .int .i64 0, .int .i64 0]) ?_ 0 _ rfl; (with_reducible repeat (first | refine blk_drewN ?_ _ | refine blk_drew ?_ | refine blk_alloc ?_ _)); exact BK299.out⟩, ⟨by repeat (first | (with_reducible first | exact HB.out | apply below_alloc | apply pw_below_drewN | apply below_drew1 | refine below_set ?_ GE287.out | refine below_set ?_ GE290.out | refine below_set ?_ GE299.out) | exact HB.out)⟩⟩
                  · rw [if_neg c41] at H
                    have c41b0 : (t294 == 0) = false := beq_eq_false_iff_ne.mpr c41
                    have c41b1 : (t294 != 0) = true := bne_iff_ne.mpr c41
                    have H' := Aside0.mk H
                    clear H
                    go_wp2
                    go_meet
                    case rel => exact ⟨_, (true), (by first | rfl | (simp; done) | (simp [*]; done)), H', ⟨by first | omega | exact Nat.le_refl _⟩, ⟨by (with_reducible repeat (first | refine blk_drewN ?_ _ | refine blk_drew ?_ | refine blk_alloc ?_ _)); refine blk_far ?_ NB287_299.out _; (with_reducible repeat (first | refine blk_drewN ?_ _ | refine blk_drew ?_ | refine blk_alloc ?_ _)); refine blk_far ?_ NB287_299.out _; (with_reducible repeat (first | refine blk_drewN ?_ _ | refine blk_drew ?_ | refine blk_alloc ?_ _)); refine blk_far ?_ NB287_299.out _; (with_reducible repeat (first | refine blk_drewN ?_ _ | refine blk_drew ?_ | refine blk_alloc ?_ _)); exact BK287.out⟩, ⟨by (with_reducible repeat (first | refine blk_drewN ?_ _ | refine blk_drew ?_ | refine blk_alloc ?_ _)); refine blk_far ?_ NB290_299.out _; (with_reducible repeat (first | refine blk_drewN ?_ _ | refine blk_drew ?_ | refine blk_alloc ?_ _)); refine blk_far ?_ NB290_299.out _; (with_reducible repeat (first | refine blk_drewN ?_ _ | refine blk_drew ?_ | refine blk_alloc ?_ _)); refine blk_far ?_ NB290_299.out _; (with_reducible repeat (first | refine blk_drewN ?_ _ | refine blk_drew ?_ | refine blk_alloc ?_ _)); exact BK290.out⟩, ⟨by (with_reducible repeat (first | refine blk_drewN ?_ _ | refine blk_drew ?_ | refine blk_alloc ?_ _)); refine blk_put (cs := #[.int .i64 t295, .int .i64 t296, .int .i64 0]) ?_ 2 _ rfl; (with_reducible repeat (first | refine blk_drewN ?_ _ | refine blk_drew ?_ | refine blk_alloc ?_ _)); refine blk_put (cs := #[.int .i64 t295, .int .i64 0, .int .i64 0]) ?_ 1 _ rfl; (with_reducible repeat (first | refine blk_drewN ?_ _ | refine blk_drew ?_ | refine blk_alloc ?_ _)); refine blk_put (cs := #[.int .i64 0, .int .i64 0, .int .i64 0]) ?_ 0 _ rfl; (with_reducible repeat (first | refine blk_drewN ?_ _ | refine blk_drew ?_ | refine blk_alloc ?_ _)); exact BK299.out⟩, ⟨by repeat (first | (with_reducible first | exact HB.out | apply below_alloc | apply pw_below_drewN | apply below_drew1 | refine below_set ?_ GE287.out | refine below_set ?_ GE290.out | refine below_set ?_ GE299.out) | exact HB.out)⟩⟩
                · rw [if_neg c40] at H
                  have c40b0 : (t292 == 0) = false := beq_eq_false_iff_ne.mpr c40
                  have c40b1 : (t292 != 0) = true := bne_iff_ne.mpr c40
                  (first | rw [c40b0] | (simp only [i64_w, i32_w]; rw [c40b0]) | rw [c40b1] | skip)
                  have H' := Aside0.mk H
                  clear H
                  go_wp2
                  go_meet
                  case rel => exact ⟨_, (true), (by first | rfl | (simp; done) | (simp [*]; done)), H', ⟨by first | omega | exact Nat.le_refl _⟩, ⟨by (with_reducible repeat (first | refine blk_drewN ?_ _ | refine blk_drew ?_ | refine blk_alloc ?_ _)); refine blk_far ?_ NB287_299.out _; (with_reducible repeat (first | refine blk_drewN ?_ _ | refine blk_drew ?_ | refine blk_alloc ?_ _)); refine blk_far ?_ NB287_299.out _; (with_reducible repeat (first | refine blk_drewN ?_ _ | refine blk_drew ?_ | refine blk_alloc ?_ _)); refine blk_far ?_ NB287_299.out _; (with_reducible repeat (first | refine blk_drewN ?_ _ | refine blk_drew ?_ | refine blk_alloc ?_ _)); exact BK287.out⟩, ⟨by (with_reducible repeat (first | refine blk_drewN ?_ _ | refine blk_drew ?_ | refine blk_alloc ?_ _)); refine blk_far ?_ NB290_299.out _; (with_reducible repeat (first | refine blk_drewN ?_ _ | refine blk_drew ?_ | refine blk_alloc ?_ _)); refine blk_far ?_ NB290_299.out _; (with_reducible repeat (first | refine blk_drewN ?_ _ | refine blk_drew ?_ | refine blk_alloc ?_ _)); refine blk_far ?_ NB290_299.out _; (with_reducible repeat (first | refine blk_drewN ?_ _ | refine blk_drew ?_ | refine blk_alloc ?_ _)); exact BK290.out⟩, ⟨by (with_reducible repeat (first | refine blk_drewN ?_ _ | refine blk_drew ?_ | refine blk_alloc ?_ _)); refine blk_put (cs := #[.int .i64 t295, .int .i64 t296, .int .i64 0]) ?_ 2 _ rfl; (with_reducible repeat (first | refine blk_drewN ?_ _ | refine blk_drew ?_ | refine blk_alloc ?_ _)); refine blk_put (cs := #[.int .i64 t295, .int .i64 0, .int .i64 0]) ?_ 1 _ rfl; (with_reducible repeat (first | refine blk_drewN ?_ _ | refine blk_drew ?_ | refine blk_alloc ?_ _)); refine blk_put (cs := #[.int .i64 0, .int .i64 0, .int .i64 0]) ?_ 0 _ rfl; (with_reducible repeat (first | refine blk_drewN ?_ _ | refine blk_drew ?_ | refine blk_alloc ?_ _)); exact BK299.out⟩, ⟨by repeat (first | (with_reducible first | exact HB.out | apply below_alloc | apply pw_below_drewN | apply below_drew1 | refine below_set ?_ GE287.out | refine below_set ?_ GE290.out | refine below_set ?_ GE299.out) | exact HB.out)⟩⟩
              case rest =>
                clear HC21
                try clear c1
                try clear c2
                try clear p2
                try clear q2
                try clear hx2
                try clear c3
                try clear c4
                try clear c5
                try clear c6
                try clear c7
                try clear c8
                try clear c11
                try clear c12
                try clear c13
                try clear c13b0
                try clear c14
                try clear c14b0
                try clear c16
                try clear c16b0
                try clear c17
                try clear c17b0
                try clear p28
                try clear q28
                try clear hx28
                try clear c29
                try clear c36
                try clear c37
                try clear c38
                try clear c40
                try clear c40b0
                try clear c40b1
                try clear c41
                try clear c41b0
                try clear c41b1
                try clear c42
                try clear c42b0
                try clear c42b1
                try clear c43
                try clear c43b0
                try clear c44
                try clear c45
                try clear c47
                try clear c49
                try clear c49b0
                try clear c49b1
                try clear c50
                try clear c50b0
                try clear c50b1
                try clear c50b2
                try clear c51
                try clear c52
                try clear c54
                try clear c57
                try clear c58
                try clear c60
                try clear c63
                try clear c63b0
                try clear c63b1
                try clear c63b2
                try clear c64
                try clear c65
                try clear c67
                try clear c70
                try clear c71
                try clear c73
                try clear hcz27_0
                try clear hcz27_1
                try clear hcz27_2
                try clear hcz30_0
                try clear hcz30_1
                try clear hcz30_2
                try clear hcz31_0
                try clear hcz31_1
                try clear hcz31_2
                try clear hcz33_0
                try clear hcz33_1
                try clear hcz33_2
                try clear hcz39_0
                try clear hcz39_1
                try clear hcz39_2
                try clear hcz46_0
                try clear hcz46_1
                try clear hcz46_2
                try clear hcz48_0
                try clear hcz48_1
                try clear hcz48_2
                try clear hcz53_0
                try clear hcz53_1
                try clear hcz53_2
                try clear hcz55_0
                try clear hcz55_1
                try clear hcz55_2
                try clear hcz56_0
                try clear hcz56_1
                try clear hcz56_2
                try clear hcz59_0
                try clear hcz59_1
                try clear hcz59_2
                try clear hcz61_0
                try clear hcz61_1
                try clear hcz61_2
                try clear hcz62_0
                try clear hcz62_1
                try clear hcz62_2
                try clear hcz66_0
                try clear hcz66_1
                try clear hcz66_2
                try clear hcz68_0
                try clear hcz68_1
                try clear hcz68_2
                try clear hcz69_0
                try clear hcz69_1
                try clear hcz69_2
                try clear hcz72_0
                try clear hcz72_1
                try clear hcz72_2
                try clear hcz74_0
                try clear hcz74_1
                try clear hcz74_2
                try clear hcz75_0
                try clear hcz75_1
                try clear hcz75_2
                try clear hfz27_0
                try clear hfz27_1
                try clear hfz27_2
                try clear hfz30_0
                try clear hfz30_1
                try clear hfz30_2
                try clear hfz31_0
                try clear hfz31_1
                try clear hfz31_2
                try clear hfz33_0
                try clear hfz33_1
                try clear hfz33_2
                try clear hfz39_0
                try clear hfz39_1
                try clear hfz39_2
                try clear hfz46_0
                try clear hfz46_1
                try clear hfz46_2
                try clear hfz48_0
                try clear hfz48_1
                try clear hfz48_2
                try clear hfz53_0
                try clear hfz53_1
                try clear hfz53_2
                try clear hfz55_0
                try clear hfz55_1
                try clear hfz55_2
                try clear hfz56_0
                try clear hfz56_1
                try clear hfz56_2
                try clear hfz59_0
                try clear hfz59_1
                try clear hfz59_2
                try clear hfz61_0
                try clear hfz61_1
                try clear hfz61_2
                try clear hfz62_0
                try clear hfz62_1
                try clear hfz62_2
                try clear hfz66_0
                try clear hfz66_1
                try clear hfz66_2
                try clear hfz68_0
                try clear hfz68_1
                try clear hfz68_2
                try clear hfz69_0
                try clear hfz69_1
                try clear hfz69_2
                try clear hfz72_0
                try clear hfz72_1
                try clear hfz72_2
                try clear hfz74_0
                try clear hfz74_1
                try clear hfz74_2
                try clear hfz75_0
                try clear hfz75_1
                try clear hfz75_2
                try clear hx286_0
                try clear hx286_1
                try clear hx286_2
                try clear hx289_0
                try clear hx289_1
                try clear hx289_2
                try clear p286
                try clear p289
                try clear q286
                try clear q289
                obtain ⟨kq, x95_20, rfl, HA, HJ20, BK287, BK290, BK299, HB⟩ := hcut
                cases kq with
                | zero => exact absurd HA.out (by simp [dialtonelaw14_LifeDecodes.j0])
                | succ kj20 =>
                  have H := HA.out
                  clear HA
                  simp only [dialtonelaw14_LifeDecodes.j0] at H
                  by_cases c76 : x95_20 = true
                  · subst c76
                    have H1 : (some false) = some r := by rw [if_pos rfl] at H; exact H
                    clear H
                    have H := H1
                    clear H1
                    obtain rfl := Option.some.inj H
                    go_wp2
                    go_ret
                    exact ⟨by first | rfl | (simp [errW_none, errW_some] <;> rfl) | (simp [*, errW_none, errW_some] <;> rfl), by repeat (first | (with_reducible first | exact HB.out | apply below_alloc | apply pw_below_drewN | apply below_drew1 | refine below_set ?_ GE287.out | refine below_set ?_ GE290.out | refine below_set ?_ GE299.out) | exact HB.out)⟩
                  · replace c76 := Bool.eq_false_iff.mpr c76
                    subst c76
                    have H1 : (if t291.toList = t293.toList then (dialtonelaw14_LifeDecodes.j1 kj20 a3 a4 a5 t291 false) else (if (t291.size : Int) ≤ (t293.size : Int) then (if 0 ≤ (t291.size : Int) then (if (t293.extract 0 t291.size).toList = t291.toList then (dialtonelaw14_LifeDecodes.j1 kj20 a3 a4 a5 t291 true) else (if (t293.size : Int) ≤ (t291.size : Int) then (if 0 ≤ (t293.size : Int) then (dialtonelaw14_LifeDecodes.j1 kj20 a3 a4 a5 t291 ((t291.extract 0 t293.size).toList == t293.toList)) else (none)) else (dialtonelaw14_LifeDecodes.j1 kj20 a3 a4 a5 t291 false))) else (none)) else (if (t293.size : Int) ≤ (t291.size : Int) then (if 0 ≤ (t293.size : Int) then (dialtonelaw14_LifeDecodes.j1 kj20 a3 a4 a5 t291 ((t291.extract 0 t293.size).toList == t293.toList)) else (none)) else (dialtonelaw14_LifeDecodes.j1 kj20 a3 a4 a5 t291 false)))) = some r := by rw [if_neg (show ¬ (false = true) by decide)] at H; exact H
                    clear H
                    have H := H1
                    clear H1
                    have HC77 := Aside0.mk H
                    clear H
                    go_upto_region 11 with (fail)
                    go_cut [128] (fun v128 wc => ∃ (kq : Nat) (x128_76 : Bool), v128 = .bool x128_76 ∧ Aside0 (dialtonelaw14_LifeDecodes.j1 kq a3 a4 a5 t291 x128_76 = some r) ∧ Aside0 (kq ≤ kj20) ∧ Aside0 (wc.heap[gb287]? = some (.cells #[.int .i64 ((rd_T54 y282 t285).f0), .int .i64 ((rd_T54 y282 t285).f1), .int .i64 ((rd_T54 y282 t285).f2)] 54 (0, 0))) ∧ Aside0 (wc.heap[gb290]? = some (.cells #[.int .i64 ((rd_T54 y282 t288).f0), .int .i64 ((rd_T54 y282 t288).f1), .int .i64 ((rd_T54 y282 t288).f2)] 54 (0, 0))) ∧ Aside0 (wc.heap[gb299]? = some (.cells #[.int .i64 t295, .int .i64 t296, .int .i64 t297] 54 (0, 0))) ∧ Aside0 (Below w.heap.size w wc))
                    case first =>
                      have H := HC77.out
                      clear HC77
                      by_cases c78 : t291.toList = t293.toList
                      · rw [if_pos c78] at H
                        have c78b0 : (t291.toList == t293.toList) = true := beq_iff_eq.mpr c78
                        have c78b1 : (t291.toList != t293.toList) = false := bne_eq_false_iff_eq.mpr c78
                        clear c78
                        (first | rw [c78b0] | (simp only [i64_w, i32_w]; rw [c78b0]) | rw [c78b1] | skip)
                        have H' := Aside0.mk H
                        clear H
                        go_wp2
                        go_meet
                        case rel => exact ⟨_, (false), (by first | rfl | (simp; done) | (simp [*]; done)), H', ⟨by have := HJ20.out; first | omega | exact Nat.le_refl _⟩, ⟨by (with_reducible repeat (first | refine blk_drewN ?_ _ | refine blk_drew ?_ | refine blk_alloc ?_ _)); exact BK287.out⟩, ⟨by (with_reducible repeat (first | refine blk_drewN ?_ _ | refine blk_drew ?_ | refine blk_alloc ?_ _)); exact BK290.out⟩, ⟨by (with_reducible repeat (first | refine blk_drewN ?_ _ | refine blk_drew ?_ | refine blk_alloc ?_ _)); exact BK299.out⟩, ⟨by repeat (first | (with_reducible first | exact HB.out | apply below_alloc | apply pw_below_drewN | apply below_drew1 | refine below_set ?_ GE287.out | refine below_set ?_ GE290.out | refine below_set ?_ GE299.out) | exact HB.out)⟩⟩
                      · rw [if_neg c78] at H
                        have c78b0 : (t291.toList == t293.toList) = false := beq_eq_false_iff_ne.mpr c78
                        have c78b1 : (t291.toList != t293.toList) = true := bne_iff_ne.mpr c78
                        (first | rw [c78b0] | (simp only [i64_w, i32_w]; rw [c78b0]) | rw [c78b1] | skip)
                        by_cases c79 : (t291.size : Int) ≤ (t293.size : Int)
                        · rw [if_pos c79] at H
                          have c79b0 : decide ((t291.size : Int) ≤ (t293.size : Int)) = true := decide_eq_true c79
                          have c79b1 : decide (t291.size ≤ t293.size) = true := decide_eq_true (Int.ofNat_le.mp c79)
                          clear c79
                          by_cases c80 : 0 ≤ (t291.size : Int)
                          · rw [if_pos c80] at H
                            have c80b0 := eq_true c80
                            have c80b1 : decide (0 ≤ (t291.size : Int)) = true := decide_eq_true c80
                            clear c80
                            have c81b0 := eq_true (of_decide_eq_true (by first | (with_reducible assumption) | assumption) : (t291.size : Int) ≤ (t293.size : Int))
                            by_cases c82 : (t293.extract 0 t291.size).toList = t291.toList
                            · rw [if_pos c82] at H
                              have c82b0 : ((t293.extract 0 t291.size).toList == t291.toList) = true := beq_iff_eq.mpr c82
                              have c82b1 : ((t293.extract 0 t291.size).toList != t291.toList) = false := bne_eq_false_iff_eq.mpr c82
                              clear c82
                              have H' := Aside0.mk H
                              clear H
                              go_wp2
                              go_meet
                              case rel => exact ⟨_, (true), (by first | rfl | (simp; done) | (simp [*]; done)), H', ⟨by have := HJ20.out; first | omega | exact Nat.le_refl _⟩, ⟨by (with_reducible repeat (first | refine blk_drewN ?_ _ | refine blk_drew ?_ | refine blk_alloc ?_ _)); exact BK287.out⟩, ⟨by (with_reducible repeat (first | refine blk_drewN ?_ _ | refine blk_drew ?_ | refine blk_alloc ?_ _)); exact BK290.out⟩, ⟨by (with_reducible repeat (first | refine blk_drewN ?_ _ | refine blk_drew ?_ | refine blk_alloc ?_ _)); exact BK299.out⟩, ⟨by repeat (first | (with_reducible first | exact HB.out | apply below_alloc | apply pw_below_drewN | apply below_drew1 | refine below_set ?_ GE287.out | refine below_set ?_ GE290.out | refine below_set ?_ GE299.out) | exact HB.out)⟩⟩
                            · rw [if_neg c82] at H
                              have c82b0 : ((t293.extract 0 t291.size).toList == t291.toList) = false := beq_eq_false_iff_ne.mpr c82
                              have c82b1 : ((t293.extract 0 t291.size).toList != t291.toList) = true := bne_iff_ne.mpr c82
                              by_cases c83 : (t293.size : Int) ≤ (t291.size : Int)
                              · rw [if_pos c83] at H
                                have c83b0 : decide ((t293.size : Int) ≤ (t291.size : Int)) = true := decide_eq_true c83
                                have c83b1 : decide (t293.size ≤ t291.size) = true := decide_eq_true (Int.ofNat_le.mp c83)
                                clear c83
                                by_cases c84 : 0 ≤ (t293.size : Int)
                                · rw [if_pos c84] at H
                                  have c84b0 := eq_true c84
                                  have c84b1 : decide (0 ≤ (t293.size : Int)) = true := decide_eq_true c84
                                  clear c84
                                  have c85b0 := eq_true (of_decide_eq_true (by first | (with_reducible assumption) | assumption) : (t293.size : Int) ≤ (t291.size : Int))
                                  have H' := Aside0.mk H
                                  clear H
                                  go_wp2
                                  go_meet
                                  case rel => exact ⟨_, (((t291.extract 0 t293.size).toList == t293.toList)), (by first | rfl | (simp; done) | (simp [*]; done)), H', ⟨by have := HJ20.out; first | omega | exact Nat.le_refl _⟩, ⟨by (with_reducible repeat (first | refine blk_drewN ?_ _ | refine blk_drew ?_ | refine blk_alloc ?_ _)); exact BK287.out⟩, ⟨by (with_reducible repeat (first | refine blk_drewN ?_ _ | refine blk_drew ?_ | refine blk_alloc ?_ _)); exact BK290.out⟩, ⟨by (with_reducible repeat (first | refine blk_drewN ?_ _ | refine blk_drew ?_ | refine blk_alloc ?_ _)); exact BK299.out⟩, ⟨by repeat (first | (with_reducible first | exact HB.out | apply below_alloc | apply pw_below_drewN | apply below_drew1 | refine below_set ?_ GE287.out | refine below_set ?_ GE290.out | refine below_set ?_ GE299.out) | exact HB.out)⟩⟩
                                · rw [if_neg c84] at H
                                  exact absurd H (by simp)
                              · rw [if_neg c83] at H
                                have c83b0 : decide ((t293.size : Int) ≤ (t291.size : Int)) = false := decide_eq_false c83
                                have c83b1 : decide (t293.size ≤ t291.size) = false := decide_eq_false (fun h => c83 (Int.ofNat_le.mpr h))
                                clear c83
                                have H' := Aside0.mk H
                                clear H
                                go_wp2
                                go_meet
                                case rel => exact ⟨_, (false), (by first | rfl | (simp; done) | (simp [*]; done)), H', ⟨by have := HJ20.out; first | omega | exact Nat.le_refl _⟩, ⟨by (with_reducible repeat (first | refine blk_drewN ?_ _ | refine blk_drew ?_ | refine blk_alloc ?_ _)); exact BK287.out⟩, ⟨by (with_reducible repeat (first | refine blk_drewN ?_ _ | refine blk_drew ?_ | refine blk_alloc ?_ _)); exact BK290.out⟩, ⟨by (with_reducible repeat (first | refine blk_drewN ?_ _ | refine blk_drew ?_ | refine blk_alloc ?_ _)); exact BK299.out⟩, ⟨by repeat (first | (with_reducible first | exact HB.out | apply below_alloc | apply pw_below_drewN | apply below_drew1 | refine below_set ?_ GE287.out | refine below_set ?_ GE290.out | refine below_set ?_ GE299.out) | exact HB.out)⟩⟩
                          · rw [if_neg c80] at H
                            exact absurd H (by simp)
                        · rw [if_neg c79] at H
                          have c79b0 : decide ((t291.size : Int) ≤ (t293.size : Int)) = false := decide_eq_false c79
                          have c79b1 : decide (t291.size ≤ t293.size) = false := decide_eq_false (fun h => c79 (Int.ofNat_le.mpr h))
                          clear c79
                          by_cases c86 : (t293.size : Int) ≤ (t291.size : Int)
                          · rw [if_pos c86] at H
                            have c86b0 : decide ((t293.size : Int) ≤ (t291.size : Int)) = true := decide_eq_true c86
                            have c86b1 : decide (t293.size ≤ t291.size) = true := decide_eq_true (Int.ofNat_le.mp c86)
                            clear c86
                            by_cases c87 : 0 ≤ (t293.size : Int)
                            · rw [if_pos c87] at H
                              have c87b0 := eq_true c87
                              have c87b1 : decide (0 ≤ (t293.size : Int)) = true := decide_eq_true c87
                              clear c87
                              have c88b0 := eq_true (of_decide_eq_true (by first | (with_reducible assumption) | assumption) : (t293.size : Int) ≤ (t291.size : Int))
                              have H' := Aside0.mk H
                              clear H
                              go_wp2
                              go_meet
                              case rel => exact ⟨_, (((t291.extract 0 t293.size).toList == t293.toList)), (by first | rfl | (simp; done) | (simp [*]; done)), H', ⟨by have := HJ20.out; first | omega | exact Nat.le_refl _⟩, ⟨by (with_reducible repeat (first | refine blk_drewN ?_ _ | refine blk_drew ?_ | refine blk_alloc ?_ _)); exact BK287.out⟩, ⟨by (with_reducible repeat (first | refine blk_drewN ?_ _ | refine blk_drew ?_ | refine blk_alloc ?_ _)); exact BK290.out⟩, ⟨by (with_reducible repeat (first | refine blk_drewN ?_ _ | refine blk_drew ?_ | refine blk_alloc ?_ _)); exact BK299.out⟩, ⟨by repeat (first | (with_reducible first | exact HB.out | apply below_alloc | apply pw_below_drewN | apply below_drew1 | refine below_set ?_ GE287.out | refine below_set ?_ GE290.out | refine below_set ?_ GE299.out) | exact HB.out)⟩⟩
                            · rw [if_neg c87] at H
                              exact absurd H (by simp)
                          · rw [if_neg c86] at H
                            have c86b0 : decide ((t293.size : Int) ≤ (t291.size : Int)) = false := decide_eq_false c86
                            have c86b1 : decide (t293.size ≤ t291.size) = false := decide_eq_false (fun h => c86 (Int.ofNat_le.mpr h))
                            clear c86
                            have H' := Aside0.mk H
                            clear H
                            go_wp2
                            go_meet
                            case rel => exact ⟨_, (false), (by first | rfl | (simp; done) | (simp [*]; done)), H', ⟨by have := HJ20.out; first | omega | exact Nat.le_refl _⟩, ⟨by (with_reducible repeat (first | refine blk_drewN ?_ _ | refine blk_drew ?_ | refine blk_alloc ?_ _)); exact BK287.out⟩, ⟨by (with_reducible repeat (first | refine blk_drewN ?_ _ | refine blk_drew ?_ | refine blk_alloc ?_ _)); exact BK290.out⟩, ⟨by (with_reducible repeat (first | refine blk_drewN ?_ _ | refine blk_drew ?_ | refine blk_alloc ?_ _)); exact BK299.out⟩, ⟨by repeat (first | (with_reducible first | exact HB.out | apply below_alloc | apply pw_below_drewN | apply below_drew1 | refine below_set ?_ GE287.out | refine below_set ?_ GE290.out | refine below_set ?_ GE299.out) | exact HB.out)⟩⟩
                    case rest =>
                      clear HC77
                      try clear c1
                      try clear c2
                      try clear p2
                      try clear q2
                      try clear hx2
                      try clear c3
                      try clear c4
                      try clear c5
                      try clear c6
                      try clear c7
                      try clear c8
                      try clear c11
                      try clear c12
                      try clear c13
                      try clear c13b0
                      try clear c14
                      try clear c14b0
                      try clear c16
                      try clear c16b0
                      try clear c17
                      try clear c17b0
                      try clear p28
                      try clear q28
                      try clear hx28
                      try clear c29
                      try clear c36
                      try clear c37
                      try clear c38
                      try clear c40
                      try clear c40b0
                      try clear c40b1
                      try clear c41
                      try clear c41b0
                      try clear c41b1
                      try clear c42
                      try clear c42b0
                      try clear c42b1
                      try clear c43
                      try clear c43b0
                      try clear c44
                      try clear c45
                      try clear c47
                      try clear c49
                      try clear c49b0
                      try clear c49b1
                      try clear c50
                      try clear c50b0
                      try clear c50b1
                      try clear c50b2
                      try clear c51
                      try clear c52
                      try clear c54
                      try clear c57
                      try clear c58
                      try clear c60
                      try clear c63
                      try clear c63b0
                      try clear c63b1
                      try clear c63b2
                      try clear c64
                      try clear c65
                      try clear c67
                      try clear c70
                      try clear c71
                      try clear c73
                      try clear c76
                      try clear c78
                      try clear c78b0
                      try clear c78b1
                      try clear c79
                      try clear c79b0
                      try clear c79b1
                      try clear c80
                      try clear c80b0
                      try clear c80b1
                      try clear c81
                      try clear c81b0
                      try clear c82
                      try clear c82b0
                      try clear c82b1
                      try clear c83
                      try clear c83b0
                      try clear c83b1
                      try clear c84
                      try clear c84b0
                      try clear c84b1
                      try clear c85
                      try clear c85b0
                      try clear c86
                      try clear c86b0
                      try clear c86b1
                      try clear c87
                      try clear c87b0
                      try clear c87b1
                      try clear c88
                      try clear c88b0
                      try clear hcz27_0
                      try clear hcz27_1
                      try clear hcz27_2
                      try clear hcz30_0
                      try clear hcz30_1
                      try clear hcz30_2
                      try clear hcz31_0
                      try clear hcz31_1
                      try clear hcz31_2
                      try clear hcz33_0
                      try clear hcz33_1
                      try clear hcz33_2
                      try clear hcz39_0
                      try clear hcz39_1
                      try clear hcz39_2
                      try clear hcz46_0
                      try clear hcz46_1
                      try clear hcz46_2
                      try clear hcz48_0
                      try clear hcz48_1
                      try clear hcz48_2
                      try clear hcz53_0
                      try clear hcz53_1
                      try clear hcz53_2
                      try clear hcz55_0
                      try clear hcz55_1
                      try clear hcz55_2
                      try clear hcz56_0
                      try clear hcz56_1
                      try clear hcz56_2
                      try clear hcz59_0
                      try clear hcz59_1
                      try clear hcz59_2
                      try clear hcz61_0
                      try clear hcz61_1
                      try clear hcz61_2
                      try clear hcz62_0
                      try clear hcz62_1
                      try clear hcz62_2
                      try clear hcz66_0
                      try clear hcz66_1
                      try clear hcz66_2
                      try clear hcz68_0
                      try clear hcz68_1
                      try clear hcz68_2
                      try clear hcz69_0
                      try clear hcz69_1
                      try clear hcz69_2
                      try clear hcz72_0
                      try clear hcz72_1
                      try clear hcz72_2
                      try clear hcz74_0
                      try clear hcz74_1
                      try clear hcz74_2
                      try clear hcz75_0
                      try clear hcz75_1
                      try clear hcz75_2
                      try clear hfz27_0
                      try clear hfz27_1
                      try clear hfz27_2
                      try clear hfz30_0
                      try clear hfz30_1
                      try clear hfz30_2
                      try clear hfz31_0
                      try clear hfz31_1
                      try clear hfz31_2
                      try clear hfz33_0
                      try clear hfz33_1
                      try clear hfz33_2
                      try clear hfz39_0
                      try clear hfz39_1
                      try clear hfz39_2
                      try clear hfz46_0
                      try clear hfz46_1
                      try clear hfz46_2
                      try clear hfz48_0
                      try clear hfz48_1
                      try clear hfz48_2
                      try clear hfz53_0
                      try clear hfz53_1
                      try clear hfz53_2
                      try clear hfz55_0
                      try clear hfz55_1
                      try clear hfz55_2
                      try clear hfz56_0
                      try clear hfz56_1
                      try clear hfz56_2
                      try clear hfz59_0
                      try clear hfz59_1
                      try clear hfz59_2
                      try clear hfz61_0
                      try clear hfz61_1
                      try clear hfz61_2
                      try clear hfz62_0
                      try clear hfz62_1
                      try clear hfz62_2
                      try clear hfz66_0
                      try clear hfz66_1
                      try clear hfz66_2
                      try clear hfz68_0
                      try clear hfz68_1
                      try clear hfz68_2
                      try clear hfz69_0
                      try clear hfz69_1
                      try clear hfz69_2
                      try clear hfz72_0
                      try clear hfz72_1
                      try clear hfz72_2
                      try clear hfz74_0
                      try clear hfz74_1
                      try clear hfz74_2
                      try clear hfz75_0
                      try clear hfz75_1
                      try clear hfz75_2
                      try clear hx286_0
                      try clear hx286_1
                      try clear hx286_2
                      try clear hx289_0
                      try clear hx289_1
                      try clear hx289_2
                      try clear p2
                      try clear p28
                      try clear p286
                      try clear p289
                      try clear q2
                      try clear q28
                      try clear q286
                      try clear q289
                      obtain ⟨kq, x128_76, rfl, HA, HJ76, BK287, BK290, BK299, HB⟩ := hcut
                      cases kq with
                      | zero => exact absurd HA.out (by simp [dialtonelaw14_LifeDecodes.j1])
                      | succ kj76 =>
                        have H := HA.out
                        clear HA
                        simp only [dialtonelaw14_LifeDecodes.j1] at H
                        by_cases c89 : x128_76 = true
                        · subst c89
                          have H1 : (some false) = some r := by rw [if_pos rfl] at H; exact H
                          clear H
                          have H := H1
                          clear H1
                          obtain rfl := Option.some.inj H
                          go_wp2
                          go_ret
                          exact ⟨by first | rfl | (simp [errW_none, errW_some] <;> rfl) | (simp [*, errW_none, errW_some] <;> rfl), by repeat (first | (with_reducible first | exact HB.out | apply below_alloc | apply pw_below_drewN | apply below_drew1 | refine below_set ?_ GE287.out | refine below_set ?_ GE290.out | refine below_set ?_ GE299.out) | exact HB.out)⟩
                        · replace c89 := Bool.eq_false_iff.mpr c89
                          subst c89
                          have H1 : ((dialtonelaw14_pick.f a4 (t291.size : Int)).bind fun t300 => (if 0 ≤ (mn (a3.size : Int) 30) then (if (mn (a3.size : Int) 30) ≤ (a3.size : Int) then (if 0 ≤ t300 then (if t300 ≤ (t291.size : Int) then ((some (([a5] : List Int) : List Int)).bind fun y301 => (if (t291.extract 0 (t300 : Int).toNat).size + (strOfNums y301).size ≤ 9223372036854775807 then (if 0 ≤ (wrap64 (t300 + 1)) then (if (wrap64 (t300 + 1)) ≤ (t291.size : Int) then (if ((t291.extract 0 (t300 : Int).toNat) ++ (strOfNums y301)).size + (t291.extract ((wrap64 (t300 + 1)) : Int).toNat t291.size).size ≤ 9223372036854775807 then (if t291.size + (a3.extract 0 ((mn (a3.size : Int) 30) : Int).toNat).size ≤ 9223372036854775807 then ((some (([a3.extract 0 ((mn (a3.size : Int) 30) : Int).toNat, ((t291.extract 0 (t300 : Int).toNat) ++ (strOfNums y301)) ++ (t291.extract ((wrap64 (t300 + 1)) : Int).toNat t291.size), t291 ++ (a3.extract 0 ((mn (a3.size : Int) 30) : Int).toNat)] : List ByteArray) : List ByteArray)).bind fun y304 => (dialtonelaw14_LifeDecodes.l0 kj76 y304 (y304.length : Int) 0)) else (none)) else (none)) else (none)) else (none)) else (none))) else (none)) else (none)) else (none)) else (none))) = some r := by rw [if_neg (show ¬ (false = true) by decide)] at H; exact H
                          clear H
                          have H := H1
                          clear H1
                          replace H := Option.bind_eq_some_iff.mp H
                          obtain ⟨t300, A900, H⟩ := H
                          replace H : (if 0 ≤ (mn (a3.size : Int) 30) then (if (mn (a3.size : Int) 30) ≤ (a3.size : Int) then (if 0 ≤ t300 then (if t300 ≤ (t291.size : Int) then ((some (([a5] : List Int) : List Int)).bind fun y301 => (if (t291.extract 0 (t300 : Int).toNat).size + (strOfNums y301).size ≤ 9223372036854775807 then (if 0 ≤ (wrap64 (t300 + 1)) then (if (wrap64 (t300 + 1)) ≤ (t291.size : Int) then (if ((t291.extract 0 (t300 : Int).toNat) ++ (strOfNums y301)).size + (t291.extract ((wrap64 (t300 + 1)) : Int).toNat t291.size).size ≤ 9223372036854775807 then (if t291.size + (a3.extract 0 ((mn (a3.size : Int) 30) : Int).toNat).size ≤ 9223372036854775807 then ((some (([a3.extract 0 ((mn (a3.size : Int) 30) : Int).toNat, ((t291.extract 0 (t300 : Int).toNat) ++ (strOfNums y301)) ++ (t291.extract ((wrap64 (t300 + 1)) : Int).toNat t291.size), t291 ++ (a3.extract 0 ((mn (a3.size : Int) 30) : Int).toNat)] : List ByteArray) : List ByteArray)).bind fun y304 => (dialtonelaw14_LifeDecodes.l0 kj76 y304 (y304.length : Int) 0)) else (none)) else (none)) else (none)) else (none)) else (none))) else (none)) else (none)) else (none)) else (none)) = some r := H
                          have A90 := Aside0.mk A900
                          clear A900
                          obtain ⟨ji91, hji91⟩ : ∃ j_ : Int, (mn (a3.size : Int) 30) = j_ := ⟨_, rfl⟩
                          replace H : (if 0 ≤ (ji91) then (if (ji91) ≤ (a3.size : Int) then (if 0 ≤ t300 then (if t300 ≤ (t291.size : Int) then ((some (([a5] : List Int) : List Int)).bind fun y301 => (if (t291.extract 0 (t300 : Int).toNat).size + (strOfNums y301).size ≤ 9223372036854775807 then (if 0 ≤ (wrap64 (t300 + 1)) then (if (wrap64 (t300 + 1)) ≤ (t291.size : Int) then (if ((t291.extract 0 (t300 : Int).toNat) ++ (strOfNums y301)).size + (t291.extract ((wrap64 (t300 + 1)) : Int).toNat t291.size).size ≤ 9223372036854775807 then (if t291.size + (a3.extract 0 ((ji91) : Int).toNat).size ≤ 9223372036854775807 then ((some (([a3.extract 0 ((ji91) : Int).toNat, ((t291.extract 0 (t300 : Int).toNat) ++ (strOfNums y301)) ++ (t291.extract ((wrap64 (t300 + 1)) : Int).toNat t291.size), t291 ++ (a3.extract 0 ((ji91) : Int).toNat)] : List ByteArray) : List ByteArray)).bind fun y304 => (dialtonelaw14_LifeDecodes.l0 kj76 y304 (y304.length : Int) 0)) else (none)) else (none)) else (none)) else (none)) else (none))) else (none)) else (none)) else (none)) else (none)) = some r := by first | (rw [hji91] at H; exact H) | (simp only [hji91] at H ⊢; exact H)
                          (try rw [hji91] at A90)
                          have hji91_ : (if 30 < (a3.size : Int) then 30 else (a3.size : Int)) = ji91 := hji91
                          by_cases c92 : 0 ≤ (ji91)
                          · rw [if_pos c92] at H
                            have c92b0 := eq_true c92
                            have c92b1 : decide (0 ≤ (ji91)) = true := decide_eq_true c92
                            clear c92
                            by_cases c93 : (ji91) ≤ (a3.size : Int)
                            · rw [if_pos c93] at H
                              have c93b0 := eq_true c93
                              have c93b1 : decide ((ji91) ≤ (a3.size : Int)) = true := decide_eq_true c93
                              clear c93
                              by_cases c94 : 0 ≤ t300
                              · rw [if_pos c94] at H
                                have c94b0 := eq_true c94
                                have c94b1 : decide (0 ≤ t300) = true := decide_eq_true c94
                                clear c94
                                by_cases c95 : t300 ≤ (t291.size : Int)
                                · rw [if_pos c95] at H
                                  have c95b0 := eq_true c95
                                  have c95b1 : decide (t300 ≤ (t291.size : Int)) = true := decide_eq_true c95
                                  clear c95
                                  obtain ⟨y301, hy301⟩ : ∃ y_ : List Int, y_ = (([a5] : List Int)) := ⟨_, rfl⟩
                                  replace H : (if (t291.extract 0 (t300 : Int).toNat).size + (strOfNums y301).size ≤ 9223372036854775807 then (if 0 ≤ (wrap64 (t300 + 1)) then (if (wrap64 (t300 + 1)) ≤ (t291.size : Int) then (if ((t291.extract 0 (t300 : Int).toNat) ++ (strOfNums y301)).size + (t291.extract ((wrap64 (t300 + 1)) : Int).toNat t291.size).size ≤ 9223372036854775807 then (if t291.size + (a3.extract 0 ((ji91) : Int).toNat).size ≤ 9223372036854775807 then ((some (([a3.extract 0 ((ji91) : Int).toNat, ((t291.extract 0 (t300 : Int).toNat) ++ (strOfNums y301)) ++ (t291.extract ((wrap64 (t300 + 1)) : Int).toNat t291.size), t291 ++ (a3.extract 0 ((ji91) : Int).toNat)] : List ByteArray) : List ByteArray)).bind fun y304 => (dialtonelaw14_LifeDecodes.l0 kj76 y304 (y304.length : Int) 0)) else (none)) else (none)) else (none)) else (none)) else (none)) = some r := by first | (rw [hy301]; with_reducible exact H) | (have H2_ := (Option.bind_some _ _).symm.trans H; rw [hy301]; with_reducible exact H2_) | (have H2_ := (Option.bind_some _ _).symm.trans H; with_reducible exact H2_) | with_reducible exact H | (rw [hy301]; exact H) | exact H
                                  have Ny301 := Aside0.mk hy301
                                  clear hy301
                                  by_cases c96 : (t291.extract 0 (t300 : Int).toNat).size + (strOfNums y301).size ≤ 9223372036854775807
                                  · rw [if_pos c96] at H
                                    have c96b0 := eq_true c96
                                    have c96b1 : decide ((t291.extract 0 (t300 : Int).toNat).size + (strOfNums y301).size ≤ 9223372036854775807) = true := decide_eq_true c96
                                    try have c96b2 : (9223372036854775807 < (t291.extract 0 (t300 : Int).toNat).size + (strOfNums y301).size) = False := eq_false (Nat.not_lt.2 c96)
                                    try have c96b3 := (show ∀ z_ : Nat, (t291.extract 0 (t300 : Int).toNat).size + (strOfNums y301).size = z_ → (9223372036854775807 < z_) = False from fun z_ h_ => h_ ▸ c96b2) _ (by go_simp; rfl)
                                    obtain ⟨ji97, hji97⟩ : ∃ j_ : Int, (wrap64 (t300 + 1)) = j_ := ⟨_, rfl⟩
                                    replace H : (if 0 ≤ (ji97) then (if (ji97) ≤ (t291.size : Int) then (if ((t291.extract 0 (t300 : Int).toNat) ++ (strOfNums y301)).size + (t291.extract ((ji97) : Int).toNat t291.size).size ≤ 9223372036854775807 then (if t291.size + (a3.extract 0 ((ji91) : Int).toNat).size ≤ 9223372036854775807 then ((some (([a3.extract 0 ((ji91) : Int).toNat, ((t291.extract 0 (t300 : Int).toNat) ++ (strOfNums y301)) ++ (t291.extract ((ji97) : Int).toNat t291.size), t291 ++ (a3.extract 0 ((ji91) : Int).toNat)] : List ByteArray) : List ByteArray)).bind fun y304 => (dialtonelaw14_LifeDecodes.l0 kj76 y304 (y304.length : Int) 0)) else (none)) else (none)) else (none)) else (none)) = some r := by first | (rw [hji97] at H; exact H) | (simp only [hji97] at H ⊢; exact H)
                                    (try rw [hji97] at A90)
                                    have hji97w : (IntKind.i64.wrap (t300 + 1)) = ji97 := (i64_w _).trans hji97
                                    by_cases c98 : 0 ≤ (ji97)
                                    · rw [if_pos c98] at H
                                      have c98b0 := eq_true c98
                                      have c98b1 : decide (0 ≤ (ji97)) = true := decide_eq_true c98
                                      clear c98
                                      by_cases c99 : (ji97) ≤ (t291.size : Int)
                                      · rw [if_pos c99] at H
                                        have c99b0 := eq_true c99
                                        have c99b1 : decide ((ji97) ≤ (t291.size : Int)) = true := decide_eq_true c99
                                        clear c99
                                        by_cases c100 : ((t291.extract 0 (t300 : Int).toNat) ++ (strOfNums y301)).size + (t291.extract ((ji97) : Int).toNat t291.size).size ≤ 9223372036854775807
                                        · rw [if_pos c100] at H
                                          have c100b0 := eq_true c100
                                          have c100b1 : decide (((t291.extract 0 (t300 : Int).toNat) ++ (strOfNums y301)).size + (t291.extract ((ji97) : Int).toNat t291.size).size ≤ 9223372036854775807) = true := decide_eq_true c100
                                          try have c100b2 : (9223372036854775807 < ((t291.extract 0 (t300 : Int).toNat) ++ (strOfNums y301)).size + (t291.extract ((ji97) : Int).toNat t291.size).size) = False := eq_false (Nat.not_lt.2 c100)
                                          try have c100b3 := (show ∀ z_ : Nat, ((t291.extract 0 (t300 : Int).toNat) ++ (strOfNums y301)).size + (t291.extract ((ji97) : Int).toNat t291.size).size = z_ → (9223372036854775807 < z_) = False from fun z_ h_ => h_ ▸ c100b2) _ (by go_simp; rfl)
                                          have c101b0 := eq_true (of_decide_eq_true (by first | (with_reducible assumption) | assumption) : 0 ≤ (ji91))
                                          have c102b0 := eq_true (of_decide_eq_true (by first | (with_reducible assumption) | assumption) : (ji91) ≤ (a3.size : Int))
                                          by_cases c103 : t291.size + (a3.extract 0 ((ji91) : Int).toNat).size ≤ 9223372036854775807
                                          · rw [if_pos c103] at H
                                            have c103b0 := eq_true c103
                                            have c103b1 : decide (t291.size + (a3.extract 0 ((ji91) : Int).toNat).size ≤ 9223372036854775807) = true := decide_eq_true c103
                                            try have c103b2 : (9223372036854775807 < t291.size + (a3.extract 0 ((ji91) : Int).toNat).size) = False := eq_false (Nat.not_lt.2 c103)
                                            try have c103b3 := (show ∀ z_ : Nat, t291.size + (a3.extract 0 ((ji91) : Int).toNat).size = z_ → (9223372036854775807 < z_) = False from fun z_ h_ => h_ ▸ c103b2) _ (by go_simp; rfl)
                                            obtain ⟨y304, hy304⟩ : ∃ y_ : List ByteArray, y_ = (([a3.extract 0 ((ji91) : Int).toNat, ((t291.extract 0 (t300 : Int).toNat) ++ (strOfNums y301)) ++ (t291.extract ((ji97) : Int).toNat t291.size), t291 ++ (a3.extract 0 ((ji91) : Int).toNat)] : List ByteArray)) := ⟨_, rfl⟩
                                            replace H : (dialtonelaw14_LifeDecodes.l0 kj76 y304 (y304.length : Int) 0) = some r := by first | (rw [hy304]; with_reducible exact H) | (have H2_ := (Option.bind_some _ _).symm.trans H; rw [hy304]; with_reducible exact H2_) | (have H2_ := (Option.bind_some _ _).symm.trans H; with_reducible exact H2_) | with_reducible exact H | (rw [hy304]; exact H) | exact H
                                            have Ny304 := Aside0.mk hy304
                                            clear hy304
                                            have H' := Aside0.mk H
                                            clear H
                                            try go_wp2_with (first | ((with_reducible refine gate_callee (f := 29) rfl ?_); refine goesL_ (some 132) rfl rfl Try.func29 (by kernel_rfl) rfl #[.int .i64 a4, .int .i64 (t291.size : Int)] rfl (by (try simp only [List.map_toArray, List.map_cons, List.map_nil]); first | done | rfl | (simp only [List.length_drop, List.length_take]; rfl)) ?_; (with_reducible refine (dialtonelaw14_pick.calls a4 (t291.size : Int) t300 _ A90.out).mono ?_); rintro e w' ⟨rfl, ⟨nd, rfl⟩⟩; refine ⟨_, rfl, ?_⟩))
                                            (try (rw [drewN_self wc]; generalize hq_ : World.drewN wc _ = wc; have n0_ : Aside0 (wc.heap[gb287]? = some (.cells #[.int .i64 ((rd_T54 y282 t285).f0), .int .i64 ((rd_T54 y282 t285).f1), .int .i64 ((rd_T54 y282 t285).f2)] 54 (0, 0))) := ⟨by rw [← hq_]; exact (by (with_reducible repeat (first | refine blk_drewN ?_ _ | refine blk_drew ?_ | refine blk_alloc ?_ _)); exact BK287.out)⟩; have n1_ : Aside0 (wc.heap[gb290]? = some (.cells #[.int .i64 ((rd_T54 y282 t288).f0), .int .i64 ((rd_T54 y282 t288).f1), .int .i64 ((rd_T54 y282 t288).f2)] 54 (0, 0))) := ⟨by rw [← hq_]; exact (by (with_reducible repeat (first | refine blk_drewN ?_ _ | refine blk_drew ?_ | refine blk_alloc ?_ _)); exact BK290.out)⟩; have n2_ : Aside0 (wc.heap[gb299]? = some (.cells #[.int .i64 t295, .int .i64 t296, .int .i64 t297] 54 (0, 0))) := ⟨by rw [← hq_]; exact (by (with_reducible repeat (first | refine blk_drewN ?_ _ | refine blk_drew ?_ | refine blk_alloc ?_ _)); exact BK299.out)⟩; have n3_ : Aside0 (Below w.heap.size w wc) := ⟨by rw [← hq_]; exact (by repeat (first | (with_reducible first | exact HB.out | apply below_alloc | apply pw_below_drewN | apply below_drew1 | refine below_set ?_ GE287.out | refine below_set ?_ GE290.out | refine below_set ?_ GE299.out) | exact HB.out))⟩; clear BK287 BK290 BK299 HB hq_; have BK287 := n0_; have BK290 := n1_; have BK299 := n2_; have HB := n3_; clear n0_ n1_ n2_ n3_))
                                            have n0_ := Aside0.mk (blk_drew BK287.out)
                                            have n1_ := Aside0.mk (blk_drew BK290.out)
                                            have n2_ := Aside0.mk (blk_drew BK299.out)
                                            have n3_ := Aside0.mk (below_drew1 HB.out)
                                            clear BK287
                                            clear BK290
                                            clear BK299
                                            clear HB
                                            have BK287 := n0_
                                            have BK290 := n1_
                                            have BK299 := n2_
                                            have HB := n3_
                                            clear n0_ n1_ n2_ n3_
                                            refine start_ (n := 27) (S := fun w' => True) (ds := []) #[false, false, false, false, false, false, false, false, false, false, false, false, false, false, false, false, false, false, false, false, false, false, false, false, false, false, false] (by kernel_rfl) rfl rfl trivial (fun hHeld => ?_); refine with_tabW dialtonelaw14_LifeDecodes.tab14 dialtonelaw14_LifeDecodes.bits14 (fun HT_ HW_ => ?_)
                                            generalize wc.drew = w104 at BK287 BK290 BK299 HB hHeld ⊢
                                            refine pure_ (i := 0) (N := some 133) (v := ?_) (a' := ?_) #[true, false, false, false, false, false, false, false, false, false, false, false, false, false, false, false, false, false, false, false, false, false, false, false, false, false, false] rfl rfl (any_of HT_.out (by kernel_rfl)) (fun _ _ _ h => h) (Or.inl ⟨by rfl, ?_⟩) ?_ ?_
                                            rotate_left
                                            · intro w'
                                              go_simp
                                              with_reducible rfl
                                            rotate_left
                                            · simp only [Act.put, List.setIfInBounds_toArray, List.set_cons_zero, List.set_cons_succ, i64_w, i32_w]
                                              rfl
                                            refine pure_ (i := 1) (N := some 134) (v := ?_) (a' := ?_) #[true, true, false, false, false, false, false, false, false, false, false, false, false, false, false, false, false, false, false, false, false, false, false, false, false, false, false] rfl rfl (any_of HT_.out (by kernel_rfl)) (fun _ _ _ h => h) (Or.inl ⟨by rfl, ?_⟩) ?_ ?_
                                            rotate_left
                                            · intro w'
                                              go_simp
                                              with_reducible rfl
                                            rotate_left
                                            · simp only [Act.put, List.setIfInBounds_toArray, List.set_cons_zero, List.set_cons_succ, i64_w, i32_w]
                                              rfl
                                            refine pure_ (i := 2) (N := some 135) (v := ?_) (a' := ?_) #[true, true, true, false, false, false, false, false, false, false, false, false, false, false, false, false, false, false, false, false, false, false, false, false, false, false, false] rfl rfl (any_of HT_.out (by kernel_rfl)) (fun _ _ _ h => h) (Or.inl ⟨by rfl, ?_⟩) ?_ ?_
                                            rotate_left
                                            · intro w'
                                              go_simp
                                              with_reducible rfl
                                            rotate_left
                                            · simp only [Act.put, List.setIfInBounds_toArray, List.set_cons_zero, List.set_cons_succ, i64_w, i32_w]
                                              rfl
                                            refine pure_ (i := 3) (N := some 136) (v := ?_) (a' := ?_) #[true, true, true, true, false, false, false, false, false, false, false, false, false, false, false, false, false, false, false, false, false, false, false, false, false, false, false] rfl rfl (any_of HT_.out (by kernel_rfl)) (fun _ _ _ h => h) (Or.inl ⟨by rfl, ?_⟩) ?_ ?_
                                            rotate_left
                                            · intro w'
                                              go_simp
                                              with_reducible rfl
                                            rotate_left
                                            · simp only [Act.put, List.setIfInBounds_toArray, List.set_cons_zero, List.set_cons_succ, i64_w, i32_w]
                                              rfl
                                            refine pure_ (i := 4) (N := some 137) (v := ?_) (a' := ?_) #[true, true, true, true, true, false, false, false, false, false, false, false, false, false, false, false, false, false, false, false, false, false, false, false, false, false, false] rfl rfl (any_of HT_.out (by kernel_rfl)) (fun _ _ _ h => h) (Or.inl ⟨by rfl, ?_⟩) ?_ ?_
                                            rotate_left
                                            · intro w'
                                              go_simp
                                              with_reducible rfl
                                            rotate_left
                                            · simp only [Act.put, List.setIfInBounds_toArray, List.set_cons_zero, List.set_cons_succ, i64_w, i32_w]
                                              rfl
                                            refine pure_ (i := 5) (N := some 138) (v := ?_) (a' := ?_) #[true, true, true, true, true, true, false, false, false, false, false, false, false, false, false, false, false, false, false, false, false, false, false, false, false, false, false] rfl rfl (any_of HT_.out (by kernel_rfl)) (fun _ _ _ h => h) (Or.inl ⟨by rfl, ?_⟩) ?_ ?_
                                            rotate_left
                                            · intro w'
                                              go_simp
                                              with_reducible rfl
                                            rotate_left
                                            · simp only [Act.put, List.setIfInBounds_toArray, List.set_cons_zero, List.set_cons_succ, i64_w, i32_w]
                                              rfl
                                            refine pure_ (i := 6) (N := some 139) (v := ?_) (a' := ?_) #[true, true, true, true, true, true, true, false, false, false, false, false, false, false, false, false, false, false, false, false, false, false, false, false, false, false, false] rfl rfl (any_of HT_.out (by kernel_rfl)) (fun _ _ _ h => h) (Or.inl ⟨by rfl, ?_⟩) ?_ ?_
                                            rotate_left
                                            · intro w'
                                              go_simp
                                              with_reducible rfl
                                            rotate_left
                                            · simp only [Act.put, List.setIfInBounds_toArray, List.set_cons_zero, List.set_cons_succ, i64_w, i32_w]
                                              rfl
                                            refine pure_ (i := 7) (N := some 140) (v := ?_) (a' := ?_) #[true, true, true, true, true, true, true, true, false, false, false, false, false, false, false, false, false, false, false, false, false, false, false, false, false, false, false] rfl rfl (any_of HT_.out (by kernel_rfl)) (fun _ _ _ h => h) (Or.inl ⟨by rfl, ?_⟩) ?_ ?_
                                            rotate_left
                                            · intro w'
                                              go_simp
                                              with_reducible rfl
                                            rotate_left
                                            · simp only [Act.put, List.setIfInBounds_toArray, List.set_cons_zero, List.set_cons_succ, i64_w, i32_w]
                                              rfl
                                            refine pure_ (i := 8) (N := some 141) (v := ?_) (a' := ?_) #[true, true, true, true, true, true, true, true, true, false, false, false, false, false, false, false, false, false, false, false, false, false, false, false, false, false, false] rfl rfl (any_of HT_.out (by kernel_rfl)) (fun _ _ _ h => h) (Or.inl ⟨by rfl, ?_⟩) ?_ ?_
                                            rotate_left
                                            · intro w'
                                              go_simp
                                              with_reducible rfl
                                            rotate_left
                                            · simp only [Act.put, List.setIfInBounds_toArray, List.set_cons_zero, List.set_cons_succ, i64_w, i32_w]
                                              rfl
                                            refine pure_ (i := 12) (N := some 145) (v := ?_) (a' := ?_) #[true, true, true, true, true, true, true, true, true, false, false, false, true, false, false, false, false, false, false, false, false, false, false, false, false, false, false] rfl rfl (any_of HT_.out (by kernel_rfl)) (fun _ _ _ h => h) (Or.inl ⟨by rfl, ?_⟩) ?_ ?_
                                            rotate_left
                                            · intro w'
                                              go_simp
                                              with_reducible rfl
                                            rotate_left
                                            · simp only [Act.put, List.setIfInBounds_toArray, List.set_cons_zero, List.set_cons_succ, i64_w, i32_w]
                                              rfl
                                            refine pure_ (i := 13) (N := some 146) (v := ?_) (a' := ?_) #[true, true, true, true, true, true, true, true, true, false, false, false, true, true, false, false, false, false, false, false, false, false, false, false, false, false, false] rfl rfl (any_of HT_.out (by kernel_rfl)) (fun _ _ _ h => h) (Or.inl ⟨by rfl, ?_⟩) ?_ ?_
                                            rotate_left
                                            · intro w'
                                              go_simp
                                              with_reducible rfl
                                            rotate_left
                                            · simp only [Act.put, List.setIfInBounds_toArray, List.set_cons_zero, List.set_cons_succ, i64_w, i32_w]
                                              rfl
                                            refine pure_ (i := 14) (N := some 147) (v := ?_) (a' := ?_) #[true, true, true, true, true, true, true, true, true, false, false, false, true, true, true, false, false, false, false, false, false, false, false, false, false, false, false] rfl rfl (any_of HT_.out (by kernel_rfl)) (fun _ _ _ h => h) (Or.inl ⟨by rfl, ?_⟩) ?_ ?_
                                            rotate_left
                                            · intro w'
                                              go_simp
                                              with_reducible rfl
                                            rotate_left
                                            · simp only [Act.put, List.setIfInBounds_toArray, List.set_cons_zero, List.set_cons_succ, i64_w, i32_w]
                                              rfl
                                            refine pure_ (i := 15) (N := some 148) (v := ?_) (a' := ?_) #[true, true, true, true, true, true, true, true, true, false, false, false, true, true, true, true, false, false, false, false, false, false, false, false, false, false, false] rfl rfl (any_of HT_.out (by kernel_rfl)) (fun _ _ _ h => h) (Or.inl ⟨by rfl, ?_⟩) ?_ ?_
                                            rotate_left
                                            · intro w'
                                              go_simp
                                              with_reducible rfl
                                            rotate_left
                                            · simp only [Act.put, List.setIfInBounds_toArray, List.set_cons_zero, List.set_cons_succ, i64_w, i32_w]
                                              rfl
                                            refine pure_ (i := 17) (N := some 150) (v := ?_) (a' := ?_) #[true, true, true, true, true, true, true, true, true, false, false, false, true, true, true, true, false, true, false, false, false, false, false, false, false, false, false] rfl rfl (any_of HT_.out (by kernel_rfl)) (fun _ _ _ h => h) (Or.inl ⟨by rfl, ?_⟩) ?_ ?_
                                            rotate_left
                                            · intro w'
                                              go_simp
                                              with_reducible rfl
                                            rotate_left
                                            · simp only [Act.put, List.setIfInBounds_toArray, List.set_cons_zero, List.set_cons_succ, i64_w, i32_w]
                                              rfl
                                            refine pure_ (i := 18) (N := some 151) (v := ?_) (a' := ?_) #[true, true, true, true, true, true, true, true, true, false, false, false, true, true, true, true, false, true, true, false, false, false, false, false, false, false, false] rfl rfl (any_of HT_.out (by kernel_rfl)) (fun _ _ _ h => h) (Or.inl ⟨by rfl, ?_⟩) ?_ ?_
                                            rotate_left
                                            · intro w'
                                              go_simp
                                              with_reducible rfl
                                            rotate_left
                                            · simp only [Act.put, List.setIfInBounds_toArray, List.set_cons_zero, List.set_cons_succ, i64_w, i32_w]
                                              rfl
                                            refine pure_ (i := 19) (N := some 152) (v := ?_) (a' := ?_) #[true, true, true, true, true, true, true, true, true, false, false, false, true, true, true, true, false, true, true, true, false, false, false, false, false, false, false] rfl rfl (any_of HT_.out (by kernel_rfl)) (fun _ _ _ h => h) (Or.inl ⟨by rfl, ?_⟩) ?_ ?_
                                            rotate_left
                                            · intro w'
                                              go_simp
                                              with_reducible rfl
                                            rotate_left
                                            · simp only [Act.put, List.setIfInBounds_toArray, List.set_cons_zero, List.set_cons_succ, i64_w, i32_w]
                                              rfl
                                            refine pure_ (i := 20) (N := some 153) (v := ?_) (a' := ?_) #[true, true, true, true, true, true, true, true, true, false, false, false, true, true, true, true, false, true, true, true, true, false, false, false, false, false, false] rfl rfl (any_of HT_.out (by kernel_rfl)) (fun _ _ _ h => h) (Or.inl ⟨by rfl, ?_⟩) ?_ ?_
                                            rotate_left
                                            · intro w'
                                              go_simp
                                              with_reducible rfl
                                            rotate_left
                                            · simp only [Act.put, List.setIfInBounds_toArray, List.set_cons_zero, List.set_cons_succ, i64_w, i32_w]
                                              rfl
                                            refine pure_ (i := 21) (N := some 154) (v := ?_) (a' := ?_) #[true, true, true, true, true, true, true, true, true, false, false, false, true, true, true, true, false, true, true, true, true, true, false, false, false, false, false] rfl rfl (any_of HT_.out (by kernel_rfl)) (fun _ _ _ h => h) (Or.inl ⟨by rfl, ?_⟩) ?_ ?_
                                            rotate_left
                                            · intro w'
                                              go_simp
                                              with_reducible rfl
                                            rotate_left
                                            · simp only [Act.put, List.setIfInBounds_toArray, List.set_cons_zero, List.set_cons_succ, i64_w, i32_w]
                                              rfl
                                            refine pure_ (i := 22) (N := some 155) (v := ?_) (a' := ?_) #[true, true, true, true, true, true, true, true, true, false, false, false, true, true, true, true, false, true, true, true, true, true, true, false, false, false, false] rfl rfl (any_of HT_.out (by kernel_rfl)) (fun _ _ _ h => h) (Or.inl ⟨by rfl, ?_⟩) ?_ ?_
                                            rotate_left
                                            · intro w'
                                              go_simp
                                              with_reducible rfl
                                            rotate_left
                                            · simp only [Act.put, List.setIfInBounds_toArray, List.set_cons_zero, List.set_cons_succ, i64_w, i32_w]
                                              rfl
                                            refine pure_ (i := 23) (N := some 156) (v := ?_) (a' := ?_) #[true, true, true, true, true, true, true, true, true, false, false, false, true, true, true, true, false, true, true, true, true, true, true, true, false, false, false] rfl rfl (any_of HT_.out (by kernel_rfl)) (fun _ _ _ h => h) (Or.inl ⟨by rfl, ?_⟩) ?_ ?_
                                            rotate_left
                                            · intro w'
                                              go_simp
                                              with_reducible rfl
                                            rotate_left
                                            · simp only [Act.put, List.setIfInBounds_toArray, List.set_cons_zero, List.set_cons_succ, i64_w, i32_w]
                                              rfl
                                            refine pure_ (i := 26) (N := some 159) (v := ?_) (a' := ?_) #[true, true, true, true, true, true, true, true, true, false, false, false, true, true, true, true, false, true, true, true, true, true, true, true, false, false, true] rfl rfl (any_of HT_.out (by kernel_rfl)) (fun _ _ _ h => h) (Or.inl ⟨by rfl, ?_⟩) ?_ ?_
                                            rotate_left
                                            · intro w'
                                              go_simp
                                              with_reducible rfl
                                            rotate_left
                                            · simp only [Act.put, List.setIfInBounds_toArray, List.set_cons_zero, List.set_cons_succ, i64_w, i32_w]
                                              rfl
                                            refine one_ (i := 9) (N := some 142) #[true, true, true, true, true, true, true, true, true, true, false, false, true, true, true, true, false, true, true, true, true, true, true, true, false, false, true] rfl rfl (one_of HT_.out (by kernel_rfl)) (by decide) (fun K hK => ?_)
                                            refine Kd.R_lit_step (Kd.int .u8) _ 5 ?hg (N := 142) ?hd (xs := ([a5] : List Int)) (inner := [.int .u8 a5]) (ok := fun _ => True) (okp := fun _ => True) ?hr ?hp (fun _ hk => hk) trivial (Below.refl _ _) (Nat.le_refl _) (by simp) ?_; (case hd => rfl); (case hg => rfl); (case hr => first | (go_simp; done) | (go_simp; rfl)); (case hp => exact (Reps.one (show Kd.M (Kd.int .u8) _ _ _ a5 [.int .u8 a5] from rfl) (Reps.none _ _)))
                                            intro v302 w105 ho106 hb hg_ hnew_
                                            clear hg_ hnew_
                                            (first | rw [← Ny301.out] at ho106 | (simp only [Int.reduceToNat] at ho106; rw [← Ny301.out] at ho106))
                                            have n0_ := Aside0.mk (Kd.R_lower ho106 (below_size (by repeat (first | (with_reducible first | exact HB.out | apply below_alloc | apply pw_below_drewN | apply below_drew1 | refine below_set ?_ GE287.out | refine below_set ?_ GE290.out | refine below_set ?_ GE299.out) | exact HB.out))))
                                            have n1_ := Aside0.mk (blk_below (g := gb287) (o := .cells #[.int .i64 ((rd_T54 y282 t285).f0), .int .i64 ((rd_T54 y282 t285).f1), .int .i64 ((rd_T54 y282 t285).f2)] 54 (0, 0)) (by (with_reducible repeat (first | refine blk_drewN ?_ _ | refine blk_drew ?_ | refine blk_alloc ?_ _)); exact BK287.out) hb)
                                            have n2_ := Aside0.mk (blk_below (g := gb290) (o := .cells #[.int .i64 ((rd_T54 y282 t288).f0), .int .i64 ((rd_T54 y282 t288).f1), .int .i64 ((rd_T54 y282 t288).f2)] 54 (0, 0)) (by (with_reducible repeat (first | refine blk_drewN ?_ _ | refine blk_drew ?_ | refine blk_alloc ?_ _)); exact BK290.out) hb)
                                            have n3_ := Aside0.mk (blk_below (g := gb299) (o := .cells #[.int .i64 t295, .int .i64 t296, .int .i64 t297] 54 (0, 0)) (by (with_reducible repeat (first | refine blk_drewN ?_ _ | refine blk_drew ?_ | refine blk_alloc ?_ _)); exact BK299.out) hb)
                                            have n4_ := Aside0.mk (below_step (by repeat (first | (with_reducible first | exact HB.out | apply below_alloc | apply pw_below_drewN | apply below_drew1 | refine below_set ?_ GE287.out | refine below_set ?_ GE290.out | refine below_set ?_ GE299.out) | exact HB.out)) hb)
                                            clear BK287
                                            clear BK290
                                            clear BK299
                                            clear HB
                                            have HO303 := n0_
                                            have BK287 := n1_
                                            have BK290 := n2_
                                            have BK299 := n3_
                                            have HB := n4_
                                            clear n0_ n1_ n2_ n3_ n4_
                                            clear hb ho106
                                            refine hK.out _ _ trivial (fun hHeld => ?_)
                                            clear hK K
                                            refine norm_ (a' := ?_) ?_ ?_
                                            rotate_left
                                            · show Act.put _ (some 142) _ = _
                                              simp only [Act.put, List.setIfInBounds_toArray, List.set_cons_zero, List.set_cons_succ, i64_w, i32_w]
                                              rfl
                                            refine one_ (i := 10) (N := some 143) #[true, true, true, true, true, true, true, true, true, true, true, false, true, true, true, true, false, true, true, true, true, true, true, true, false, false, true] rfl rfl (one_of HT_.out (by kernel_rfl)) (by decide) (fun K hK => ?_)
                                            have hcv107 := own_string (P := Try.prog) Try.underlying69 Try.underlying5 Try.underlying9 (Kd.own_of_R HO303.out)
                                            refine value_ (w1 := ?_) (v := ?_) (by rfl) rfl ?_ ?_
                                            rotate_left 2
                                            · go_simp
                                              constructor
                                              · rfl
                                              · rfl
                                            clear hcv107
                                            refine hK.out _ _ trivial (fun hHeld => ?_)
                                            clear hK K
                                            refine norm_ (a' := ?_) ?_ ?_
                                            rotate_left
                                            · show Act.put _ (some 143) _ = _
                                              simp only [Act.put, List.setIfInBounds_toArray, List.set_cons_zero, List.set_cons_succ, i64_w, i32_w]
                                              rfl
                                            refine pure_ (i := 11) (N := some 144) (v := ?_) (a' := ?_) #[true, true, true, true, true, true, true, true, true, true, true, true, true, true, true, true, false, true, true, true, true, true, true, true, false, false, true] rfl rfl (any_of HT_.out (by kernel_rfl)) (fun _ _ _ h => h) (Or.inl ⟨by rfl, ?_⟩) ?_ ?_
                                            rotate_left
                                            · intro w'
                                              go_simp
                                              with_reducible rfl
                                            rotate_left
                                            · simp only [Act.put, List.setIfInBounds_toArray, List.set_cons_zero, List.set_cons_succ, i64_w, i32_w]
                                              rfl
                                            refine pure_ (i := 16) (N := some 149) (v := ?_) (a' := ?_) #[true, true, true, true, true, true, true, true, true, true, true, true, true, true, true, true, true, true, true, true, true, true, true, true, false, false, true] rfl rfl (any_of HT_.out (by kernel_rfl)) (fun _ _ _ h => h) (Or.inl ⟨by rfl, ?_⟩) ?_ ?_
                                            rotate_left
                                            · intro w'
                                              go_simp
                                              with_reducible rfl
                                            rotate_left
                                            · simp only [Act.put, List.setIfInBounds_toArray, List.set_cons_zero, List.set_cons_succ, i64_w, i32_w]
                                              rfl
                                            refine one_ (i := 24) (N := some 157) #[true, true, true, true, true, true, true, true, true, true, true, true, true, true, true, true, true, true, true, true, true, true, true, true, true, false, true] rfl rfl (one_of HT_.out (by kernel_rfl)) (by decide) (fun K hK => ?_)
                                            refine Kd.R_lit_step Kd.string _ 9 ?hg (N := 157) ?hd (xs := ([a3.extract 0 ((ji91) : Int).toNat, ((t291.extract 0 (t300 : Int).toNat) ++ (strOfNums y301)) ++ (t291.extract ((ji97) : Int).toNat t291.size), t291 ++ (a3.extract 0 ((ji91) : Int).toNat)] : List ByteArray)) (inner := [.string (a3.extract 0 ((ji91) : Int).toNat), .string (((t291.extract 0 (t300 : Int).toNat) ++ (strOfNums y301)) ++ (t291.extract ((ji97) : Int).toNat t291.size)), .string (t291 ++ (a3.extract 0 ((ji91) : Int).toNat))]) (ok := fun _ => True) (okp := fun _ => True) ?hr ?hp (fun _ hk => hk) trivial (Below.refl _ _) (Nat.le_refl _) (by simp) ?_; (case hd => rfl); (case hg => rfl); (case hr => first | (go_simp; done) | (go_simp; rfl)); (case hp => exact (Reps.one (show Kd.M Kd.string _ _ _ (a3.extract 0 ((ji91) : Int).toNat) [.string (a3.extract 0 ((ji91) : Int).toNat)] from rfl) (Reps.one (show Kd.M Kd.string _ _ _ (((t291.extract 0 (t300 : Int).toNat) ++ (strOfNums y301)) ++ (t291.extract ((ji97) : Int).toNat t291.size)) [.string (((t291.extract 0 (t300 : Int).toNat) ++ (strOfNums y301)) ++ (t291.extract ((ji97) : Int).toNat t291.size))] from rfl) (Reps.one (show Kd.M Kd.string _ _ _ (t291 ++ (a3.extract 0 ((ji91) : Int).toNat)) [.string (t291 ++ (a3.extract 0 ((ji91) : Int).toNat))] from rfl) (Reps.none _ _)))))
                                            intro v305 w108 ho109 hb hg_ hnew_
                                            clear hg_ hnew_
                                            (first | rw [← Ny304.out] at ho109 | (simp only [Int.reduceToNat] at ho109; rw [← Ny304.out] at ho109))
                                            have n0_ := Aside0.mk (Kd.R_below (by (with_reducible repeat (first | apply Kd.R_alloc | apply Kd.R_drewN | apply Kd.R_drew)); exact HO303.out) hb)
                                            have n1_ := Aside0.mk (Kd.R_lower ho109 (below_size (by repeat (first | (with_reducible first | exact HB.out | apply below_alloc | apply pw_below_drewN | apply below_drew1 | refine below_set ?_ GE287.out | refine below_set ?_ GE290.out | refine below_set ?_ GE299.out) | exact HB.out))))
                                            have n2_ := Aside0.mk (blk_below (g := gb287) (o := .cells #[.int .i64 ((rd_T54 y282 t285).f0), .int .i64 ((rd_T54 y282 t285).f1), .int .i64 ((rd_T54 y282 t285).f2)] 54 (0, 0)) (by (with_reducible repeat (first | refine blk_drewN ?_ _ | refine blk_drew ?_ | refine blk_alloc ?_ _)); exact BK287.out) hb)
                                            have n3_ := Aside0.mk (blk_below (g := gb290) (o := .cells #[.int .i64 ((rd_T54 y282 t288).f0), .int .i64 ((rd_T54 y282 t288).f1), .int .i64 ((rd_T54 y282 t288).f2)] 54 (0, 0)) (by (with_reducible repeat (first | refine blk_drewN ?_ _ | refine blk_drew ?_ | refine blk_alloc ?_ _)); exact BK290.out) hb)
                                            have n4_ := Aside0.mk (blk_below (g := gb299) (o := .cells #[.int .i64 t295, .int .i64 t296, .int .i64 t297] 54 (0, 0)) (by (with_reducible repeat (first | refine blk_drewN ?_ _ | refine blk_drew ?_ | refine blk_alloc ?_ _)); exact BK299.out) hb)
                                            have n5_ := Aside0.mk (below_step (by repeat (first | (with_reducible first | exact HB.out | apply below_alloc | apply pw_below_drewN | apply below_drew1 | refine below_set ?_ GE287.out | refine below_set ?_ GE290.out | refine below_set ?_ GE299.out) | exact HB.out)) hb)
                                            clear HO303
                                            clear BK287
                                            clear BK290
                                            clear BK299
                                            clear HB
                                            have HO303 := n0_
                                            have HO306 := n1_
                                            have BK287 := n2_
                                            have BK290 := n3_
                                            have BK299 := n4_
                                            have HB := n5_
                                            clear n0_ n1_ n2_ n3_ n4_ n5_
                                            clear hb ho109
                                            obtain ⟨Ao110, co110, eo110⟩ := Kd.R_slice HO306.out
                                            (first | subst eo110 | (injection eo110 with f1_ f2_ f3_; have f4_ := f1_.symm; have f5_ := f3_.symm; clear f1_ f2_ f3_; subst f4_; subst f5_))
                                            refine hK.out _ _ trivial (fun hHeld => ?_)
                                            clear hK K
                                            refine norm_ (a' := ?_) ?_ ?_
                                            rotate_left
                                            · show Act.put _ (some 157) _ = _
                                              simp only [Act.put, List.setIfInBounds_toArray, List.set_cons_zero, List.set_cons_succ, i64_w, i32_w]
                                              rfl
                                            refine pure_ (i := 25) (N := some 158) (v := ?_) (a' := ?_) #[true, true, true, true, true, true, true, true, true, true, true, true, true, true, true, true, true, true, true, true, true, true, true, true, true, true, true] rfl rfl (any_of HT_.out (by kernel_rfl)) (fun _ _ _ h => h) (Or.inl ⟨by rfl, ?_⟩) ?_ ?_
                                            rotate_left
                                            · intro w'
                                              go_simp
                                              with_reducible rfl
                                            rotate_left
                                            · simp only [Act.put, List.setIfInBounds_toArray, List.set_cons_zero, List.set_cons_succ, i64_w, i32_w]
                                              rfl
                                            refine done_ (done_of HT_.out (by kernel_rfl)) ?_
                                            try go_wp2
                                            go_loopg [159] kj76 (fun kq v159 w' => ∃ (x159_3 : Int), v159 = .int .i64 x159_3 ∧ Aside0 (dialtonelaw14_LifeDecodes.l0 kq y304 (y304.length : Int) x159_3 = some r) ∧ Aside0 (kq ≤ kj76) ∧ Aside0 (Kd.R Kd.string 9 w' w.heap.size (fun _ => True) (.slice Ao110 y304.length co110) y304) ∧ Aside0 (w'.heap[gb287]? = some (.cells #[.int .i64 ((rd_T54 y282 t285).f0), .int .i64 ((rd_T54 y282 t285).f1), .int .i64 ((rd_T54 y282 t285).f2)] 54 (0, 0))) ∧ Aside0 (w'.heap[gb290]? = some (.cells #[.int .i64 ((rd_T54 y282 t288).f0), .int .i64 ((rd_T54 y282 t288).f1), .int .i64 ((rd_T54 y282 t288).f2)] 54 (0, 0))) ∧ Aside0 (w'.heap[gb299]? = some (.cells #[.int .i64 t295, .int .i64 t296, .int .i64 t297] 54 (0, 0))) ∧ Aside0 (Below w.heap.size w w'))
                                            case atStart => exact ⟨(0), (by first | rfl | (simp; done) | (simp [*]; done)), H', ⟨Nat.le_refl _⟩, ⟨by (with_reducible repeat (first | apply Kd.R_alloc | apply Kd.R_drewN | apply Kd.R_drew)); exact HO306.out⟩, ⟨by (with_reducible repeat (first | refine blk_drewN ?_ _ | refine blk_drew ?_ | refine blk_alloc ?_ _)); exact BK287.out⟩, ⟨by (with_reducible repeat (first | refine blk_drewN ?_ _ | refine blk_drew ?_ | refine blk_alloc ?_ _)); exact BK290.out⟩, ⟨by (with_reducible repeat (first | refine blk_drewN ?_ _ | refine blk_drew ?_ | refine blk_alloc ?_ _)); exact BK299.out⟩, ⟨by repeat (first | (with_reducible first | exact HB.out | apply below_alloc | apply pw_below_drewN | apply below_drew1 | refine below_set ?_ GE287.out | refine below_set ?_ GE290.out | refine below_set ?_ GE299.out) | exact HB.out)⟩⟩
                                            case round =>
                                              clear H'
                                              try clear c1
                                              try clear hcv1
                                              try clear c2
                                              try clear p2
                                              try clear q2
                                              try clear hx2
                                              try clear c3
                                              try clear c4
                                              try clear c5
                                              try clear c6
                                              try clear p6
                                              try clear c7
                                              try clear c8
                                              try clear c9
                                              try clear c10
                                              try clear hcv10
                                              try clear c12
                                              try clear c13
                                              try clear c13b0
                                              try clear c14
                                              try clear c14b0
                                              try clear c16
                                              try clear c16b0
                                              try clear c17
                                              try clear c17b0
                                              try clear p28
                                              try clear q28
                                              try clear hx28
                                              try clear c29
                                              try clear c36
                                              try clear c37
                                              try clear c38
                                              try clear c40
                                              try clear c40b0
                                              try clear c40b1
                                              try clear c41
                                              try clear c41b0
                                              try clear c41b1
                                              try clear c42
                                              try clear c42b0
                                              try clear c42b1
                                              try clear c43
                                              try clear c43b0
                                              try clear c44
                                              try clear c45
                                              try clear c47
                                              try clear c49
                                              try clear c49b0
                                              try clear c49b1
                                              try clear c50
                                              try clear c50b0
                                              try clear c50b1
                                              try clear c50b2
                                              try clear c51
                                              try clear c52
                                              try clear c54
                                              try clear c57
                                              try clear c58
                                              try clear c60
                                              try clear c63
                                              try clear c63b0
                                              try clear c63b1
                                              try clear c63b2
                                              try clear c64
                                              try clear p64
                                              try clear c65
                                              try clear c67
                                              try clear c70
                                              try clear c71
                                              try clear c73
                                              try clear c76
                                              try clear c78
                                              try clear c78b0
                                              try clear c78b1
                                              try clear c79
                                              try clear c79b0
                                              try clear c79b1
                                              try clear c80
                                              try clear c80b0
                                              try clear c80b1
                                              try clear c81
                                              try clear c81b0
                                              try clear c82
                                              try clear c82b0
                                              try clear c82b1
                                              try clear c83
                                              try clear c83b0
                                              try clear c83b1
                                              try clear c84
                                              try clear c84b0
                                              try clear c84b1
                                              try clear c85
                                              try clear c85b0
                                              try clear c86
                                              try clear c86b0
                                              try clear c86b1
                                              try clear c87
                                              try clear c87b0
                                              try clear c87b1
                                              try clear c88
                                              try clear c88b0
                                              try clear c89
                                              try clear c92
                                              try clear c92b0
                                              try clear c92b1
                                              try clear c93
                                              try clear c93b0
                                              try clear c93b1
                                              try clear c94
                                              try clear c94b0
                                              try clear c94b1
                                              try clear c95
                                              try clear c95b0
                                              try clear c95b1
                                              try clear c96
                                              try clear c96b0
                                              try clear c96b1
                                              try clear c96b2
                                              try clear c98
                                              try clear c98b0
                                              try clear c98b1
                                              try clear c99
                                              try clear c99b0
                                              try clear c99b1
                                              try clear c100
                                              try clear c100b0
                                              try clear c100b1
                                              try clear c100b2
                                              try clear c101
                                              try clear c101b0
                                              try clear c102
                                              try clear c102b0
                                              try clear c103
                                              try clear c103b0
                                              try clear c103b1
                                              try clear c103b2
                                              try clear hcv107
                                              try clear hcz27_0
                                              try clear hcz27_1
                                              try clear hcz27_2
                                              try clear hcz30_0
                                              try clear hcz30_1
                                              try clear hcz30_2
                                              try clear hcz31_0
                                              try clear hcz31_1
                                              try clear hcz31_2
                                              try clear hcz33_0
                                              try clear hcz33_1
                                              try clear hcz33_2
                                              try clear hcz39_0
                                              try clear hcz39_1
                                              try clear hcz39_2
                                              try clear hcz46_0
                                              try clear hcz46_1
                                              try clear hcz46_2
                                              try clear hcz48_0
                                              try clear hcz48_1
                                              try clear hcz48_2
                                              try clear hcz53_0
                                              try clear hcz53_1
                                              try clear hcz53_2
                                              try clear hcz55_0
                                              try clear hcz55_1
                                              try clear hcz55_2
                                              try clear hcz56_0
                                              try clear hcz56_1
                                              try clear hcz56_2
                                              try clear hcz59_0
                                              try clear hcz59_1
                                              try clear hcz59_2
                                              try clear hcz61_0
                                              try clear hcz61_1
                                              try clear hcz61_2
                                              try clear hcz62_0
                                              try clear hcz62_1
                                              try clear hcz62_2
                                              try clear hcz66_0
                                              try clear hcz66_1
                                              try clear hcz66_2
                                              try clear hcz68_0
                                              try clear hcz68_1
                                              try clear hcz68_2
                                              try clear hcz69_0
                                              try clear hcz69_1
                                              try clear hcz69_2
                                              try clear hcz72_0
                                              try clear hcz72_1
                                              try clear hcz72_2
                                              try clear hcz74_0
                                              try clear hcz74_1
                                              try clear hcz74_2
                                              try clear hcz75_0
                                              try clear hcz75_1
                                              try clear hcz75_2
                                              try clear hfz27_0
                                              try clear hfz27_1
                                              try clear hfz27_2
                                              try clear hfz30_0
                                              try clear hfz30_1
                                              try clear hfz30_2
                                              try clear hfz31_0
                                              try clear hfz31_1
                                              try clear hfz31_2
                                              try clear hfz33_0
                                              try clear hfz33_1
                                              try clear hfz33_2
                                              try clear hfz39_0
                                              try clear hfz39_1
                                              try clear hfz39_2
                                              try clear hfz46_0
                                              try clear hfz46_1
                                              try clear hfz46_2
                                              try clear hfz48_0
                                              try clear hfz48_1
                                              try clear hfz48_2
                                              try clear hfz53_0
                                              try clear hfz53_1
                                              try clear hfz53_2
                                              try clear hfz55_0
                                              try clear hfz55_1
                                              try clear hfz55_2
                                              try clear hfz56_0
                                              try clear hfz56_1
                                              try clear hfz56_2
                                              try clear hfz59_0
                                              try clear hfz59_1
                                              try clear hfz59_2
                                              try clear hfz61_0
                                              try clear hfz61_1
                                              try clear hfz61_2
                                              try clear hfz62_0
                                              try clear hfz62_1
                                              try clear hfz62_2
                                              try clear hfz66_0
                                              try clear hfz66_1
                                              try clear hfz66_2
                                              try clear hfz68_0
                                              try clear hfz68_1
                                              try clear hfz68_2
                                              try clear hfz69_0
                                              try clear hfz69_1
                                              try clear hfz69_2
                                              try clear hfz72_0
                                              try clear hfz72_1
                                              try clear hfz72_2
                                              try clear hfz74_0
                                              try clear hfz74_1
                                              try clear hfz74_2
                                              try clear hfz75_0
                                              try clear hfz75_1
                                              try clear hfz75_2
                                              try clear hx286_0
                                              try clear hx286_1
                                              try clear hx286_2
                                              try clear hx289_0
                                              try clear hx289_1
                                              try clear hx289_2
                                              try clear p2
                                              try clear p28
                                              try clear p286
                                              try clear p289
                                              try clear q2
                                              try clear q28
                                              try clear q286
                                              try clear q289
                                              obtain ⟨x159_3, rfl, HA, HK3, HO_157, BK287, BK290, BK299, HB⟩ := hrel
                                              cases gk with
                                              | zero => exact absurd HA.out (by simp [dialtonelaw14_LifeDecodes.l0])
                                              | succ k3 =>
                                                have H := HA.out
                                                clear HA
                                                simp only [dialtonelaw14_LifeDecodes.l0] at H
                                                by_cases c111 : x159_3 < (y304.length : Int)
                                                · rw [if_pos c111] at H
                                                  have c111b0 : decide (x159_3 < (y304.length : Int)) = true := decide_eq_true c111
                                                  clear c111
                                                  by_cases c112 : 0 ≤ x159_3
                                                  · rw [if_pos c112] at H
                                                    have c112b0 : decide (0 ≤ x159_3) = true := decide_eq_true c112
                                                    clear c112
                                                    by_cases c113 : x159_3 < (y304.length : Int)
                                                    · rw [if_pos c113] at H
                                                      have c113b0 : decide (x159_3 < (y304.length : Int)) = true := decide_eq_true c113
                                                      clear c113
                                                      replace H := Option.bind_eq_some_iff.mp H
                                                      obtain ⟨⟨t308, t309, t310, t311⟩, A1140, H⟩ := H
                                                      replace H : (if t311 = 0 then ((life_Encode.f t308 t309 t310).bind fun bt313 => (if bt313.2 = 0 then (if bt313.1.toList = (rdOf ByteArray.empty y304 x159_3).toList then ((life_Formed.f t308 t309 t310).bind fun t315 => (if t315 = true then (dialtonelaw14_LifeDecodes.l0 k3 y304 (y304.length : Int) (wrap64 (x159_3 + 1))) else (some false))) else (some false)) else (some false))) else (dialtonelaw14_LifeDecodes.l0 k3 y304 (y304.length : Int) (wrap64 (x159_3 + 1)))) = some r := H
                                                      have A114 := Aside0.mk A1140
                                                      clear A1140
                                                      by_cases c115 : t311 = 0
                                                      · rw [if_pos c115] at H
                                                        have c115b0 : (t311 == 0) = true := beq_iff_eq.mpr c115
                                                        have c115b1 : (t311 != 0) = false := bne_eq_false_iff_eq.mpr c115
                                                        clear c115
                                                        replace H := Option.bind_eq_some_iff.mp H
                                                        obtain ⟨⟨t313, t314⟩, A1160, H⟩ := H
                                                        replace H : (if t314 = 0 then (if t313.toList = (rdOf ByteArray.empty y304 x159_3).toList then ((life_Formed.f t308 t309 t310).bind fun t315 => (if t315 = true then (dialtonelaw14_LifeDecodes.l0 k3 y304 (y304.length : Int) (wrap64 (x159_3 + 1))) else (some false))) else (some false)) else (some false)) = some r := H
                                                        have A116 := Aside0.mk A1160
                                                        clear A1160
                                                        by_cases c117 : t314 = 0
                                                        · rw [if_pos c117] at H
                                                          have c117b0 : (t314 == 0) = true := beq_iff_eq.mpr c117
                                                          have c117b1 : (t314 != 0) = false := bne_eq_false_iff_eq.mpr c117
                                                          clear c117
                                                          by_cases c118 : t313.toList = (rdOf ByteArray.empty y304 x159_3).toList
                                                          · rw [if_pos c118] at H
                                                            have c118b0 : (t313.toList == (rdOf ByteArray.empty y304 x159_3).toList) = true := beq_iff_eq.mpr c118
                                                            have c118b1 : (t313.toList != (rdOf ByteArray.empty y304 x159_3).toList) = false := bne_eq_false_iff_eq.mpr c118
                                                            clear c118
                                                            replace H := Option.bind_eq_some_iff.mp H
                                                            obtain ⟨t315, A1190, H⟩ := H
                                                            replace H : (if t315 = true then (dialtonelaw14_LifeDecodes.l0 k3 y304 (y304.length : Int) (wrap64 (x159_3 + 1))) else (some false)) = some r := H
                                                            have A119 := Aside0.mk A1190
                                                            clear A1190
                                                            by_cases c120 : t315 = true
                                                            · subst c120
                                                              have H1 : (dialtonelaw14_LifeDecodes.l0 k3 y304 (y304.length : Int) (wrap64 (x159_3 + 1))) = some r := by rw [if_pos rfl] at H; exact H
                                                              clear H
                                                              have H := H1
                                                              clear H1
                                                              have H' := Aside0.mk H
                                                              clear H
                                                              have p307 : 0 ≤ (x159_3 : Int) := of_decide_eq_true (by first | (with_reducible assumption) | assumption)
                                                              have q307 : x159_3 < (y304.length : Int) := of_decide_eq_true (by first | (with_reducible assumption) | assumption)
                                                              obtain ⟨ad307, e307, hx307_0⟩ := Kd.at_string (Kd.R_reads' HO_157.out).2.2 x159_3 p307 q307
                                                              cases e307
                                                              replace p307 := eq_true p307
                                                              replace q307 := eq_true q307
                                                              go_wp2_with (first | ((with_reducible refine gate_callee (f := 37) rfl ?_); refine goesL_ (some 165) rfl rfl Try.func37 (by kernel_rfl) rfl #[.string (rdOf ByteArray.empty y304 x159_3)] rfl (by (try simp only [List.map_toArray, List.map_cons, List.map_nil]); first | done | rfl | (simp only [List.length_drop, List.length_take]; rfl)) ?_; (with_reducible refine (life_Decode.calls (rdOf ByteArray.empty y304 x159_3) t308 t309 t310 t311 _ A114.out).mono ?_); rintro e w121 ⟨rfl, hb⟩; refine ⟨_, rfl, ?_⟩; have n0_ := Aside0.mk (Kd.R_below (by (with_reducible repeat (first | apply Kd.R_alloc | apply Kd.R_drewN | apply Kd.R_drew)); exact HO_157.out) hb); have n1_ := Aside0.mk (blk_below (g := gb287) (o := .cells #[.int .i64 ((rd_T54 y282 t285).f0), .int .i64 ((rd_T54 y282 t285).f1), .int .i64 ((rd_T54 y282 t285).f2)] 54 (0, 0)) (by (with_reducible repeat (first | refine blk_drewN ?_ _ | refine blk_drew ?_ | refine blk_alloc ?_ _)); exact BK287.out) hb); have n2_ := Aside0.mk (blk_below (g := gb290) (o := .cells #[.int .i64 ((rd_T54 y282 t288).f0), .int .i64 ((rd_T54 y282 t288).f1), .int .i64 ((rd_T54 y282 t288).f2)] 54 (0, 0)) (by (with_reducible repeat (first | refine blk_drewN ?_ _ | refine blk_drew ?_ | refine blk_alloc ?_ _)); exact BK290.out) hb); have n3_ := Aside0.mk (blk_below (g := gb299) (o := .cells #[.int .i64 t295, .int .i64 t296, .int .i64 t297] 54 (0, 0)) (by (with_reducible repeat (first | refine blk_drewN ?_ _ | refine blk_drew ?_ | refine blk_alloc ?_ _)); exact BK299.out) hb); have n4_ := Aside0.mk (below_step (by repeat (first | (with_reducible first | exact HB.out | apply below_alloc | apply pw_below_drewN | apply below_drew1 | refine below_set ?_ GE287.out | refine below_set ?_ GE290.out | refine below_set ?_ GE299.out) | exact HB.out)) hb); clear HO_157; clear BK287; clear BK290; clear BK299; clear HB; have HO_157 := n0_; have BK287 := n1_; have BK290 := n2_; have BK299 := n3_; have HB := n4_; clear n0_ n1_ n2_ n3_ n4_; (try clear hb); (try clear hb2); (try clear hk); (try clear hi)) | ((with_reducible refine gate_dst (N := 25) rfl ?_); (try (refine gate_guard (by rfl) ?_; dsimp only)); refine box_event ?hg (N := 25) ?hd (cs := #[.int .i64 0, .int .i64 0, .int .i64 0]) (t := 54) ?hr ?_; (case hd => rfl); (case hg => rfl); (case hr => first | (go_simp; done) | (go_simp; rfl)); intro gb312 hg w122 hbox hb; have n0_ := Aside0.mk (Kd.R_below (by (with_reducible repeat (first | apply Kd.R_alloc | apply Kd.R_drewN | apply Kd.R_drew)); exact HO_157.out) hb); have n1_ := Aside0.mk (blk_below (g := gb287) (o := .cells #[.int .i64 ((rd_T54 y282 t285).f0), .int .i64 ((rd_T54 y282 t285).f1), .int .i64 ((rd_T54 y282 t285).f2)] 54 (0, 0)) (by (with_reducible repeat (first | refine blk_drewN ?_ _ | refine blk_drew ?_ | refine blk_alloc ?_ _)); exact BK287.out) hb); have n2_ := Aside0.mk (blk_below (g := gb290) (o := .cells #[.int .i64 ((rd_T54 y282 t288).f0), .int .i64 ((rd_T54 y282 t288).f1), .int .i64 ((rd_T54 y282 t288).f2)] 54 (0, 0)) (by (with_reducible repeat (first | refine blk_drewN ?_ _ | refine blk_drew ?_ | refine blk_alloc ?_ _)); exact BK290.out) hb); have n3_ := Aside0.mk (blk_below (g := gb299) (o := .cells #[.int .i64 t295, .int .i64 t296, .int .i64 t297] 54 (0, 0)) (by (with_reducible repeat (first | refine blk_drewN ?_ _ | refine blk_drew ?_ | refine blk_alloc ?_ _)); exact BK299.out) hb); have n4_ := Aside0.mk (below_step (by repeat (first | (with_reducible first | exact HB.out | apply below_alloc | apply pw_below_drewN | apply below_drew1 | refine below_set ?_ GE287.out | refine below_set ?_ GE290.out | refine below_set ?_ GE299.out) | exact HB.out)) hb); have n5_ := Aside0.mk (hbox); have n6_ := Aside0.mk ((by rw [hg]; exact (below_size (by repeat (first | (with_reducible first | exact HB.out | apply below_alloc | apply pw_below_drewN | apply below_drew1 | refine below_set ?_ GE287.out | refine below_set ?_ GE290.out | refine below_set ?_ GE299.out) | exact HB.out))) : w.heap.size ≤ gb312)); have n7_ := Aside0.mk ((by rw [hg]; exact (below_size (by repeat (first | (with_reducible first | exact HB.out | apply below_alloc | apply pw_below_drewN | apply below_drew1 | refine below_set ?_ GE287.out | refine below_set ?_ GE290.out | refine below_set ?_ GE299.out) | exact HB.out))) : w.heap.size ≤ gb312)); have n8_ := Aside0.mk ((by rw [hg]; exact Nat.ne_of_lt (blk_lt (g := gb287) (o := .cells #[.int .i64 ((rd_T54 y282 t285).f0), .int .i64 ((rd_T54 y282 t285).f1), .int .i64 ((rd_T54 y282 t285).f2)] 54 (0, 0)) (by (with_reducible repeat (first | refine blk_drewN ?_ _ | refine blk_drew ?_ | refine blk_alloc ?_ _)); exact BK287.out)) : gb287 ≠ gb312)); have n9_ := Aside0.mk ((by rw [hg]; exact Nat.ne_of_gt (blk_lt (g := gb287) (o := .cells #[.int .i64 ((rd_T54 y282 t285).f0), .int .i64 ((rd_T54 y282 t285).f1), .int .i64 ((rd_T54 y282 t285).f2)] 54 (0, 0)) (by (with_reducible repeat (first | refine blk_drewN ?_ _ | refine blk_drew ?_ | refine blk_alloc ?_ _)); exact BK287.out)) : gb312 ≠ gb287)); have n10_ := Aside0.mk ((by rw [hg]; exact Nat.ne_of_lt (blk_lt (g := gb290) (o := .cells #[.int .i64 ((rd_T54 y282 t288).f0), .int .i64 ((rd_T54 y282 t288).f1), .int .i64 ((rd_T54 y282 t288).f2)] 54 (0, 0)) (by (with_reducible repeat (first | refine blk_drewN ?_ _ | refine blk_drew ?_ | refine blk_alloc ?_ _)); exact BK290.out)) : gb290 ≠ gb312)); have n11_ := Aside0.mk ((by rw [hg]; exact Nat.ne_of_gt (blk_lt (g := gb290) (o := .cells #[.int .i64 ((rd_T54 y282 t288).f0), .int .i64 ((rd_T54 y282 t288).f1), .int .i64 ((rd_T54 y282 t288).f2)] 54 (0, 0)) (by (with_reducible repeat (first | refine blk_drewN ?_ _ | refine blk_drew ?_ | refine blk_alloc ?_ _)); exact BK290.out)) : gb312 ≠ gb290)); have n12_ := Aside0.mk ((by rw [hg]; exact Nat.ne_of_lt (blk_lt (g := gb299) (o := .cells #[.int .i64 t295, .int .i64 t296, .int .i64 t297] 54 (0, 0)) (by (with_reducible repeat (first | refine blk_drewN ?_ _ | refine blk_drew ?_ | refine blk_alloc ?_ _)); exact BK299.out)) : gb299 ≠ gb312)); have n13_ := Aside0.mk ((by rw [hg]; exact Nat.ne_of_gt (blk_lt (g := gb299) (o := .cells #[.int .i64 t295, .int .i64 t296, .int .i64 t297] 54 (0, 0)) (by (with_reducible repeat (first | refine blk_drewN ?_ _ | refine blk_drew ?_ | refine blk_alloc ?_ _)); exact BK299.out)) : gb312 ≠ gb299)); clear HO_157; clear BK287; clear BK290; clear BK299; clear HB; have HO_157 := n0_; have BK287 := n1_; have BK290 := n2_; have BK299 := n3_; have HB := n4_; have BK312 := n5_; have GW312 := n6_; have GE312 := n7_; have NB287_312 := n8_; have NB312_287 := n9_; have NB290_312 := n10_; have NB312_290 := n11_; have NB299_312 := n12_; have NB312_299 := n13_; clear n0_ n1_ n2_ n3_ n4_ n5_ n6_ n7_ n8_ n9_ n10_ n11_ n12_ n13_; clear hb hbox hg; have hnb123 := NB312_287.out; have hnc123 := NB287_312.out; have hnb124 := NB312_290.out; have hnc124 := NB290_312.out; have hnb125 := NB312_299.out; have hnc125 := NB299_312.out; have hcz126_0 : w122.cell? ⟨gb312, 0, none⟩ = some (.int .i64 0) := (blk_cell BK312.out 0).trans rfl; have hcz126_1 : w122.cell? ⟨gb312, 1, none⟩ = some (.int .i64 0) := (blk_cell BK312.out 1).trans rfl; have hcz126_2 : w122.cell? ⟨gb312, 2, none⟩ = some (.int .i64 0) := (blk_cell BK312.out 2).trans rfl; have hfz126_0 := blk_frozen BK312.out 0; have hfz126_1 := blk_frozen BK312.out 1; have hfz126_2 := blk_frozen BK312.out 2) | ((with_reducible refine gate_callee (f := 36) rfl ?_); refine goesL_ (some 172) rfl rfl Try.func36 (by kernel_rfl) rfl #[.agg #[.int .i64 t308, .int .i64 t309, .int .i64 t310]] rfl (by (try simp only [List.map_toArray, List.map_cons, List.map_nil]); first | done | rfl | (simp only [List.length_drop, List.length_take]; rfl)) ?_; (with_reducible refine (life_Encode.calls t308 t309 t310 t313 t314 _ A116.out).mono ?_); rintro e w127 ⟨rfl, hb⟩; refine ⟨_, rfl, ?_⟩; have n0_ := Aside0.mk (Kd.R_below (by (with_reducible repeat (first | apply Kd.R_alloc | apply Kd.R_drewN | apply Kd.R_drew)); exact (Kd.R_mono (Kd.R_far (p := ⟨gb312, 2, none⟩) (Kd.R_far (p := ⟨gb312, 1, none⟩) (Kd.R_far (p := ⟨gb312, 0, none⟩) (Kd.R_types HO_157.out BK312.out (by decide)) (fun _ hk => hk.2) (.int .i64 t308)) (fun _ hk => hk.2) (.int .i64 t309)) (fun _ hk => hk.2) (.int .i64 t310)) (fun _ h_ => h_.1))) hb); have n1_ := Aside0.mk (blk_below (g := gb287) (o := .cells #[.int .i64 ((rd_T54 y282 t285).f0), .int .i64 ((rd_T54 y282 t285).f1), .int .i64 ((rd_T54 y282 t285).f2)] 54 (0, 0)) (by (with_reducible repeat (first | refine blk_drewN ?_ _ | refine blk_drew ?_ | refine blk_alloc ?_ _)); refine blk_far ?_ NB287_312.out _; (with_reducible repeat (first | refine blk_drewN ?_ _ | refine blk_drew ?_ | refine blk_alloc ?_ _)); refine blk_far ?_ NB287_312.out _; (with_reducible repeat (first | refine blk_drewN ?_ _ | refine blk_drew ?_ | refine blk_alloc ?_ _)); refine blk_far ?_ NB287_312.out _; (with_reducible repeat (first | refine blk_drewN ?_ _ | refine blk_drew ?_ | refine blk_alloc ?_ _)); exact BK287.out) hb); have n2_ := Aside0.mk (blk_below (g := gb290) (o := .cells #[.int .i64 ((rd_T54 y282 t288).f0), .int .i64 ((rd_T54 y282 t288).f1), .int .i64 ((rd_T54 y282 t288).f2)] 54 (0, 0)) (by (with_reducible repeat (first | refine blk_drewN ?_ _ | refine blk_drew ?_ | refine blk_alloc ?_ _)); refine blk_far ?_ NB290_312.out _; (with_reducible repeat (first | refine blk_drewN ?_ _ | refine blk_drew ?_ | refine blk_alloc ?_ _)); refine blk_far ?_ NB290_312.out _; (with_reducible repeat (first | refine blk_drewN ?_ _ | refine blk_drew ?_ | refine blk_alloc ?_ _)); refine blk_far ?_ NB290_312.out _; (with_reducible repeat (first | refine blk_drewN ?_ _ | refine blk_drew ?_ | refine blk_alloc ?_ _)); exact BK290.out) hb); have n3_ := Aside0.mk (blk_below (g := gb299) (o := .cells #[.int .i64 t295, .int .i64 t296, .int .i64 t297] 54 (0, 0)) (by (with_reducible repeat (first | refine blk_drewN ?_ _ | refine blk_drew ?_ | refine blk_alloc ?_ _)); refine blk_far ?_ NB299_312.out _; (with_reducible repeat (first | refine blk_drewN ?_ _ | refine blk_drew ?_ | refine blk_alloc ?_ _)); refine blk_far ?_ NB299_312.out _; (with_reducible repeat (first | refine blk_drewN ?_ _ | refine blk_drew ?_ | refine blk_alloc ?_ _)); refine blk_far ?_ NB299_312.out _; (with_reducible repeat (first | refine blk_drewN ?_ _ | refine blk_drew ?_ | refine blk_alloc ?_ _)); exact BK299.out) hb); have n4_ := Aside0.mk (blk_below (g := gb312) (o := .cells #[.int .i64 t308, .int .i64 t309, .int .i64 t310] 54 (0, 0)) (by (with_reducible repeat (first | refine blk_drewN ?_ _ | refine blk_drew ?_ | refine blk_alloc ?_ _)); refine blk_put (cs := #[.int .i64 t308, .int .i64 t309, .int .i64 0]) ?_ 2 _ rfl; (with_reducible repeat (first | refine blk_drewN ?_ _ | refine blk_drew ?_ | refine blk_alloc ?_ _)); refine blk_put (cs := #[.int .i64 t308, .int .i64 0, .int .i64 0]) ?_ 1 _ rfl; (with_reducible repeat (first | refine blk_drewN ?_ _ | refine blk_drew ?_ | refine blk_alloc ?_ _)); refine blk_put (cs := #[.int .i64 0, .int .i64 0, .int .i64 0]) ?_ 0 _ rfl; (with_reducible repeat (first | refine blk_drewN ?_ _ | refine blk_drew ?_ | refine blk_alloc ?_ _)); exact BK312.out) hb); have n5_ := Aside0.mk (below_step (by repeat (first | (with_reducible first | exact HB.out | apply below_alloc | apply pw_below_drewN | apply below_drew1 | refine below_set ?_ GE287.out | refine below_set ?_ GE290.out | refine below_set ?_ GE299.out | refine below_set ?_ GE312.out) | exact HB.out)) hb); clear HO_157; clear BK287; clear BK290; clear BK299; clear BK312; clear HB; have HO_157 := n0_; have BK287 := n1_; have BK290 := n2_; have BK299 := n3_; have BK312 := n4_; have HB := n5_; clear n0_ n1_ n2_ n3_ n4_ n5_; (try clear hb); (try clear hb2); (try clear hk); (try clear hi); have hcz128_0 : w127.cell? ⟨gb312, 0, none⟩ = some (.int .i64 t308) := (blk_cell BK312.out 0).trans rfl; have hcz128_1 : w127.cell? ⟨gb312, 1, none⟩ = some (.int .i64 t309) := (blk_cell BK312.out 1).trans rfl; have hcz128_2 : w127.cell? ⟨gb312, 2, none⟩ = some (.int .i64 t310) := (blk_cell BK312.out 2).trans rfl; have hfz128_0 := blk_frozen BK312.out 0; have hfz128_1 := blk_frozen BK312.out 1; have hfz128_2 := blk_frozen BK312.out 2) | (go_at_call 34; (with_reducible refine (life_Formed.calls t308 t309 t310 true _ A119.out).mono ?_); rintro e w129 ⟨rfl, hb⟩; have n0_ := Aside0.mk (Kd.R_below (by (with_reducible repeat (first | apply Kd.R_alloc | apply Kd.R_drewN | apply Kd.R_drew)); exact HO_157.out) hb); have n1_ := Aside0.mk (blk_below (g := gb287) (o := .cells #[.int .i64 ((rd_T54 y282 t285).f0), .int .i64 ((rd_T54 y282 t285).f1), .int .i64 ((rd_T54 y282 t285).f2)] 54 (0, 0)) (by (with_reducible repeat (first | refine blk_drewN ?_ _ | refine blk_drew ?_ | refine blk_alloc ?_ _)); exact BK287.out) hb); have n2_ := Aside0.mk (blk_below (g := gb290) (o := .cells #[.int .i64 ((rd_T54 y282 t288).f0), .int .i64 ((rd_T54 y282 t288).f1), .int .i64 ((rd_T54 y282 t288).f2)] 54 (0, 0)) (by (with_reducible repeat (first | refine blk_drewN ?_ _ | refine blk_drew ?_ | refine blk_alloc ?_ _)); exact BK290.out) hb); have n3_ := Aside0.mk (blk_below (g := gb299) (o := .cells #[.int .i64 t295, .int .i64 t296, .int .i64 t297] 54 (0, 0)) (by (with_reducible repeat (first | refine blk_drewN ?_ _ | refine blk_drew ?_ | refine blk_alloc ?_ _)); exact BK299.out) hb); have n4_ := Aside0.mk (blk_below (g := gb312) (o := .cells #[.int .i64 t308, .int .i64 t309, .int .i64 t310] 54 (0, 0)) (by (with_reducible repeat (first | refine blk_drewN ?_ _ | refine blk_drew ?_ | refine blk_alloc ?_ _)); exact BK312.out) hb); have n5_ := Aside0.mk (below_step (by repeat (first | (with_reducible first | exact HB.out | apply below_alloc | apply pw_below_drewN | apply below_drew1 | refine below_set ?_ GE287.out | refine below_set ?_ GE290.out | refine below_set ?_ GE299.out | refine below_set ?_ GE312.out) | exact HB.out)) hb); clear HO_157; clear BK287; clear BK290; clear BK299; clear BK312; clear HB; have HO_157 := n0_; have BK287 := n1_; have BK290 := n2_; have BK299 := n3_; have BK312 := n4_; have HB := n5_; clear n0_ n1_ n2_ n3_ n4_ n5_; (try clear hb); (try clear hb2); (try clear hk); (try clear hi)))
                                                              go_roundg k3
                                                              case measure => have := HJ20.out; have := HJ76.out; have := HK3.out; omega
                                                              case rel => exact ⟨(wrap64 (x159_3 + 1)), (by first | rfl | (simp; done) | (simp [*]; done)), H', ⟨by have := HJ20.out; have := HJ76.out; have := HK3.out; omega⟩, ⟨by (with_reducible repeat (first | apply Kd.R_alloc | apply Kd.R_drewN | apply Kd.R_drew)); exact HO_157.out⟩, ⟨by (with_reducible repeat (first | refine blk_drewN ?_ _ | refine blk_drew ?_ | refine blk_alloc ?_ _)); exact BK287.out⟩, ⟨by (with_reducible repeat (first | refine blk_drewN ?_ _ | refine blk_drew ?_ | refine blk_alloc ?_ _)); exact BK290.out⟩, ⟨by (with_reducible repeat (first | refine blk_drewN ?_ _ | refine blk_drew ?_ | refine blk_alloc ?_ _)); exact BK299.out⟩, ⟨by repeat (first | (with_reducible first | exact HB.out | apply below_alloc | apply pw_below_drewN | apply below_drew1 | refine below_set ?_ GE287.out | refine below_set ?_ GE290.out | refine below_set ?_ GE299.out | refine below_set ?_ GE312.out) | exact HB.out)⟩⟩
                                                            · replace c120 := Bool.eq_false_iff.mpr c120
                                                              subst c120
                                                              have H1 : (some false) = some r := by rw [if_neg (show ¬ (false = true) by decide)] at H; exact H
                                                              clear H
                                                              have H := H1
                                                              clear H1
                                                              obtain rfl := Option.some.inj H
                                                              have p307 : 0 ≤ (x159_3 : Int) := of_decide_eq_true (by first | (with_reducible assumption) | assumption)
                                                              have q307 : x159_3 < (y304.length : Int) := of_decide_eq_true (by first | (with_reducible assumption) | assumption)
                                                              obtain ⟨ad307, e307, hx307_0⟩ := Kd.at_string (Kd.R_reads' HO_157.out).2.2 x159_3 p307 q307
                                                              cases e307
                                                              replace p307 := eq_true p307
                                                              replace q307 := eq_true q307
                                                              go_wp2_with (first | ((with_reducible refine gate_callee (f := 37) rfl ?_); refine goesL_ (some 165) rfl rfl Try.func37 (by kernel_rfl) rfl #[.string (rdOf ByteArray.empty y304 x159_3)] rfl (by (try simp only [List.map_toArray, List.map_cons, List.map_nil]); first | done | rfl | (simp only [List.length_drop, List.length_take]; rfl)) ?_; (with_reducible refine (life_Decode.calls (rdOf ByteArray.empty y304 x159_3) t308 t309 t310 t311 _ A114.out).mono ?_); rintro e w130 ⟨rfl, hb⟩; refine ⟨_, rfl, ?_⟩; have n0_ := Aside0.mk (Kd.R_below (by (with_reducible repeat (first | apply Kd.R_alloc | apply Kd.R_drewN | apply Kd.R_drew)); exact HO_157.out) hb); have n1_ := Aside0.mk (blk_below (g := gb287) (o := .cells #[.int .i64 ((rd_T54 y282 t285).f0), .int .i64 ((rd_T54 y282 t285).f1), .int .i64 ((rd_T54 y282 t285).f2)] 54 (0, 0)) (by (with_reducible repeat (first | refine blk_drewN ?_ _ | refine blk_drew ?_ | refine blk_alloc ?_ _)); exact BK287.out) hb); have n2_ := Aside0.mk (blk_below (g := gb290) (o := .cells #[.int .i64 ((rd_T54 y282 t288).f0), .int .i64 ((rd_T54 y282 t288).f1), .int .i64 ((rd_T54 y282 t288).f2)] 54 (0, 0)) (by (with_reducible repeat (first | refine blk_drewN ?_ _ | refine blk_drew ?_ | refine blk_alloc ?_ _)); exact BK290.out) hb); have n3_ := Aside0.mk (blk_below (g := gb299) (o := .cells #[.int .i64 t295, .int .i64 t296, .int .i64 t297] 54 (0, 0)) (by (with_reducible repeat (first | refine blk_drewN ?_ _ | refine blk_drew ?_ | refine blk_alloc ?_ _)); exact BK299.out) hb); have n4_ := Aside0.mk (below_step (by repeat (first | (with_reducible first | exact HB.out | apply below_alloc | apply pw_below_drewN | apply below_drew1 | refine below_set ?_ GE287.out | refine below_set ?_ GE290.out | refine below_set ?_ GE299.out) | exact HB.out)) hb); clear HO_157; clear BK287; clear BK290; clear BK299; clear HB; have HO_157 := n0_; have BK287 := n1_; have BK290 := n2_; have BK299 := n3_; have HB := n4_; clear n0_ n1_ n2_ n3_ n4_; (try clear hb); (try clear hb2); (try clear hk); (try clear hi)) | ((with_reducible refine gate_dst (N := 25) rfl ?_); (try (refine gate_guard (by rfl) ?_; dsimp only)); refine box_event ?hg (N := 25) ?hd (cs := #[.int .i64 0, .int .i64 0, .int .i64 0]) (t := 54) ?hr ?_; (case hd => rfl); (case hg => rfl); (case hr => first | (go_simp; done) | (go_simp; rfl)); intro gb312 hg w131 hbox hb; have n0_ := Aside0.mk (Kd.R_below (by (with_reducible repeat (first | apply Kd.R_alloc | apply Kd.R_drewN | apply Kd.R_drew)); exact HO_157.out) hb); have n1_ := Aside0.mk (blk_below (g := gb287) (o := .cells #[.int .i64 ((rd_T54 y282 t285).f0), .int .i64 ((rd_T54 y282 t285).f1), .int .i64 ((rd_T54 y282 t285).f2)] 54 (0, 0)) (by (with_reducible repeat (first | refine blk_drewN ?_ _ | refine blk_drew ?_ | refine blk_alloc ?_ _)); exact BK287.out) hb); have n2_ := Aside0.mk (blk_below (g := gb290) (o := .cells #[.int .i64 ((rd_T54 y282 t288).f0), .int .i64 ((rd_T54 y282 t288).f1), .int .i64 ((rd_T54 y282 t288).f2)] 54 (0, 0)) (by (with_reducible repeat (first | refine blk_drewN ?_ _ | refine blk_drew ?_ | refine blk_alloc ?_ _)); exact BK290.out) hb); have n3_ := Aside0.mk (blk_below (g := gb299) (o := .cells #[.int .i64 t295, .int .i64 t296, .int .i64 t297] 54 (0, 0)) (by (with_reducible repeat (first | refine blk_drewN ?_ _ | refine blk_drew ?_ | refine blk_alloc ?_ _)); exact BK299.out) hb); have n4_ := Aside0.mk (below_step (by repeat (first | (with_reducible first | exact HB.out | apply below_alloc | apply pw_below_drewN | apply below_drew1 | refine below_set ?_ GE287.out | refine below_set ?_ GE290.out | refine below_set ?_ GE299.out) | exact HB.out)) hb); have n5_ := Aside0.mk (hbox); have n6_ := Aside0.mk ((by rw [hg]; exact (below_size (by repeat (first | (with_reducible first | exact HB.out | apply below_alloc | apply pw_below_drewN | apply below_drew1 | refine below_set ?_ GE287.out | refine below_set ?_ GE290.out | refine below_set ?_ GE299.out) | exact HB.out))) : w.heap.size ≤ gb312)); have n7_ := Aside0.mk ((by rw [hg]; exact (below_size (by repeat (first | (with_reducible first | exact HB.out | apply below_alloc | apply pw_below_drewN | apply below_drew1 | refine below_set ?_ GE287.out | refine below_set ?_ GE290.out | refine below_set ?_ GE299.out) | exact HB.out))) : w.heap.size ≤ gb312)); have n8_ := Aside0.mk ((by rw [hg]; exact Nat.ne_of_lt (blk_lt (g := gb287) (o := .cells #[.int .i64 ((rd_T54 y282 t285).f0), .int .i64 ((rd_T54 y282 t285).f1), .int .i64 ((rd_T54 y282 t285).f2)] 54 (0, 0)) (by (with_reducible repeat (first | refine blk_drewN ?_ _ | refine blk_drew ?_ | refine blk_alloc ?_ _)); exact BK287.out)) : gb287 ≠ gb312)); have n9_ := Aside0.mk ((by rw [hg]; exact Nat.ne_of_gt (blk_lt (g := gb287) (o := .cells #[.int .i64 ((rd_T54 y282 t285).f0), .int .i64 ((rd_T54 y282 t285).f1), .int .i64 ((rd_T54 y282 t285).f2)] 54 (0, 0)) (by (with_reducible repeat (first | refine blk_drewN ?_ _ | refine blk_drew ?_ | refine blk_alloc ?_ _)); exact BK287.out)) : gb312 ≠ gb287)); have n10_ := Aside0.mk ((by rw [hg]; exact Nat.ne_of_lt (blk_lt (g := gb290) (o := .cells #[.int .i64 ((rd_T54 y282 t288).f0), .int .i64 ((rd_T54 y282 t288).f1), .int .i64 ((rd_T54 y282 t288).f2)] 54 (0, 0)) (by (with_reducible repeat (first | refine blk_drewN ?_ _ | refine blk_drew ?_ | refine blk_alloc ?_ _)); exact BK290.out)) : gb290 ≠ gb312)); have n11_ := Aside0.mk ((by rw [hg]; exact Nat.ne_of_gt (blk_lt (g := gb290) (o := .cells #[.int .i64 ((rd_T54 y282 t288).f0), .int .i64 ((rd_T54 y282 t288).f1), .int .i64 ((rd_T54 y282 t288).f2)] 54 (0, 0)) (by (with_reducible repeat (first | refine blk_drewN ?_ _ | refine blk_drew ?_ | refine blk_alloc ?_ _)); exact BK290.out)) : gb312 ≠ gb290)); have n12_ := Aside0.mk ((by rw [hg]; exact Nat.ne_of_lt (blk_lt (g := gb299) (o := .cells #[.int .i64 t295, .int .i64 t296, .int .i64 t297] 54 (0, 0)) (by (with_reducible repeat (first | refine blk_drewN ?_ _ | refine blk_drew ?_ | refine blk_alloc ?_ _)); exact BK299.out)) : gb299 ≠ gb312)); have n13_ := Aside0.mk ((by rw [hg]; exact Nat.ne_of_gt (blk_lt (g := gb299) (o := .cells #[.int .i64 t295, .int .i64 t296, .int .i64 t297] 54 (0, 0)) (by (with_reducible repeat (first | refine blk_drewN ?_ _ | refine blk_drew ?_ | refine blk_alloc ?_ _)); exact BK299.out)) : gb312 ≠ gb299)); clear HO_157; clear BK287; clear BK290; clear BK299; clear HB; have HO_157 := n0_; have BK287 := n1_; have BK290 := n2_; have BK299 := n3_; have HB := n4_; have BK312 := n5_; have GW312 := n6_; have GE312 := n7_; have NB287_312 := n8_; have NB312_287 := n9_; have NB290_312 := n10_; have NB312_290 := n11_; have NB299_312 := n12_; have NB312_299 := n13_; clear n0_ n1_ n2_ n3_ n4_ n5_ n6_ n7_ n8_ n9_ n10_ n11_ n12_ n13_; clear hb hbox hg; have hnb132 := NB312_287.out; have hnc132 := NB287_312.out; have hnb133 := NB312_290.out; have hnc133 := NB290_312.out; have hnb134 := NB312_299.out; have hnc134 := NB299_312.out; have hcz135_0 : w131.cell? ⟨gb312, 0, none⟩ = some (.int .i64 0) := (blk_cell BK312.out 0).trans rfl; have hcz135_1 : w131.cell? ⟨gb312, 1, none⟩ = some (.int .i64 0) := (blk_cell BK312.out 1).trans rfl; have hcz135_2 : w131.cell? ⟨gb312, 2, none⟩ = some (.int .i64 0) := (blk_cell BK312.out 2).trans rfl; have hfz135_0 := blk_frozen BK312.out 0; have hfz135_1 := blk_frozen BK312.out 1; have hfz135_2 := blk_frozen BK312.out 2) | ((with_reducible refine gate_callee (f := 36) rfl ?_); refine goesL_ (some 172) rfl rfl Try.func36 (by kernel_rfl) rfl #[.agg #[.int .i64 t308, .int .i64 t309, .int .i64 t310]] rfl (by (try simp only [List.map_toArray, List.map_cons, List.map_nil]); first | done | rfl | (simp only [List.length_drop, List.length_take]; rfl)) ?_; (with_reducible refine (life_Encode.calls t308 t309 t310 t313 t314 _ A116.out).mono ?_); rintro e w136 ⟨rfl, hb⟩; refine ⟨_, rfl, ?_⟩; have n0_ := Aside0.mk (Kd.R_below (by (with_reducible repeat (first | apply Kd.R_alloc | apply Kd.R_drewN | apply Kd.R_drew)); exact (Kd.R_mono (Kd.R_far (p := ⟨gb312, 2, none⟩) (Kd.R_far (p := ⟨gb312, 1, none⟩) (Kd.R_far (p := ⟨gb312, 0, none⟩) (Kd.R_types HO_157.out BK312.out (by decide)) (fun _ hk => hk.2) (.int .i64 t308)) (fun _ hk => hk.2) (.int .i64 t309)) (fun _ hk => hk.2) (.int .i64 t310)) (fun _ h_ => h_.1))) hb); have n1_ := Aside0.mk (blk_below (g := gb287) (o := .cells #[.int .i64 ((rd_T54 y282 t285).f0), .int .i64 ((rd_T54 y282 t285).f1), .int .i64 ((rd_T54 y282 t285).f2)] 54 (0, 0)) (by (with_reducible repeat (first | refine blk_drewN ?_ _ | refine blk_drew ?_ | refine blk_alloc ?_ _)); refine blk_far ?_ NB287_312.out _; (with_reducible repeat (first | refine blk_drewN ?_ _ | refine blk_drew ?_ | refine blk_alloc ?_ _)); refine blk_far ?_ NB287_312.out _; (with_reducible repeat (first | refine blk_drewN ?_ _ | refine blk_drew ?_ | refine blk_alloc ?_ _)); refine blk_far ?_ NB287_312.out _; (with_reducible repeat (first | refine blk_drewN ?_ _ | refine blk_drew ?_ | refine blk_alloc ?_ _)); exact BK287.out) hb); have n2_ := Aside0.mk (blk_below (g := gb290) (o := .cells #[.int .i64 ((rd_T54 y282 t288).f0), .int .i64 ((rd_T54 y282 t288).f1), .int .i64 ((rd_T54 y282 t288).f2)] 54 (0, 0)) (by (with_reducible repeat (first | refine blk_drewN ?_ _ | refine blk_drew ?_ | refine blk_alloc ?_ _)); refine blk_far ?_ NB290_312.out _; (with_reducible repeat (first | refine blk_drewN ?_ _ | refine blk_drew ?_ | refine blk_alloc ?_ _)); refine blk_far ?_ NB290_312.out _; (with_reducible repeat (first | refine blk_drewN ?_ _ | refine blk_drew ?_ | refine blk_alloc ?_ _)); refine blk_far ?_ NB290_312.out _; (with_reducible repeat (first | refine blk_drewN ?_ _ | refine blk_drew ?_ | refine blk_alloc ?_ _)); exact BK290.out) hb); have n3_ := Aside0.mk (blk_below (g := gb299) (o := .cells #[.int .i64 t295, .int .i64 t296, .int .i64 t297] 54 (0, 0)) (by (with_reducible repeat (first | refine blk_drewN ?_ _ | refine blk_drew ?_ | refine blk_alloc ?_ _)); refine blk_far ?_ NB299_312.out _; (with_reducible repeat (first | refine blk_drewN ?_ _ | refine blk_drew ?_ | refine blk_alloc ?_ _)); refine blk_far ?_ NB299_312.out _; (with_reducible repeat (first | refine blk_drewN ?_ _ | refine blk_drew ?_ | refine blk_alloc ?_ _)); refine blk_far ?_ NB299_312.out _; (with_reducible repeat (first | refine blk_drewN ?_ _ | refine blk_drew ?_ | refine blk_alloc ?_ _)); exact BK299.out) hb); have n4_ := Aside0.mk (blk_below (g := gb312) (o := .cells #[.int .i64 t308, .int .i64 t309, .int .i64 t310] 54 (0, 0)) (by (with_reducible repeat (first | refine blk_drewN ?_ _ | refine blk_drew ?_ | refine blk_alloc ?_ _)); refine blk_put (cs := #[.int .i64 t308, .int .i64 t309, .int .i64 0]) ?_ 2 _ rfl; (with_reducible repeat (first | refine blk_drewN ?_ _ | refine blk_drew ?_ | refine blk_alloc ?_ _)); refine blk_put (cs := #[.int .i64 t308, .int .i64 0, .int .i64 0]) ?_ 1 _ rfl; (with_reducible repeat (first | refine blk_drewN ?_ _ | refine blk_drew ?_ | refine blk_alloc ?_ _)); refine blk_put (cs := #[.int .i64 0, .int .i64 0, .int .i64 0]) ?_ 0 _ rfl; (with_reducible repeat (first | refine blk_drewN ?_ _ | refine blk_drew ?_ | refine blk_alloc ?_ _)); exact BK312.out) hb); have n5_ := Aside0.mk (below_step (by repeat (first | (with_reducible first | exact HB.out | apply below_alloc | apply pw_below_drewN | apply below_drew1 | refine below_set ?_ GE287.out | refine below_set ?_ GE290.out | refine below_set ?_ GE299.out | refine below_set ?_ GE312.out) | exact HB.out)) hb); clear HO_157; clear BK287; clear BK290; clear BK299; clear BK312; clear HB; have HO_157 := n0_; have BK287 := n1_; have BK290 := n2_; have BK299 := n3_; have BK312 := n4_; have HB := n5_; clear n0_ n1_ n2_ n3_ n4_ n5_; (try clear hb); (try clear hb2); (try clear hk); (try clear hi); have hcz137_0 : w136.cell? ⟨gb312, 0, none⟩ = some (.int .i64 t308) := (blk_cell BK312.out 0).trans rfl; have hcz137_1 : w136.cell? ⟨gb312, 1, none⟩ = some (.int .i64 t309) := (blk_cell BK312.out 1).trans rfl; have hcz137_2 : w136.cell? ⟨gb312, 2, none⟩ = some (.int .i64 t310) := (blk_cell BK312.out 2).trans rfl; have hfz137_0 := blk_frozen BK312.out 0; have hfz137_1 := blk_frozen BK312.out 1; have hfz137_2 := blk_frozen BK312.out 2) | (go_at_call 34; (with_reducible refine (life_Formed.calls t308 t309 t310 false _ A119.out).mono ?_); rintro e w138 ⟨rfl, hb⟩; have n0_ := Aside0.mk (Kd.R_below (by (with_reducible repeat (first | apply Kd.R_alloc | apply Kd.R_drewN | apply Kd.R_drew)); exact HO_157.out) hb); have n1_ := Aside0.mk (blk_below (g := gb287) (o := .cells #[.int .i64 ((rd_T54 y282 t285).f0), .int .i64 ((rd_T54 y282 t285).f1), .int .i64 ((rd_T54 y282 t285).f2)] 54 (0, 0)) (by (with_reducible repeat (first | refine blk_drewN ?_ _ | refine blk_drew ?_ | refine blk_alloc ?_ _)); exact BK287.out) hb); have n2_ := Aside0.mk (blk_below (g := gb290) (o := .cells #[.int .i64 ((rd_T54 y282 t288).f0), .int .i64 ((rd_T54 y282 t288).f1), .int .i64 ((rd_T54 y282 t288).f2)] 54 (0, 0)) (by (with_reducible repeat (first | refine blk_drewN ?_ _ | refine blk_drew ?_ | refine blk_alloc ?_ _)); exact BK290.out) hb); have n3_ := Aside0.mk (blk_below (g := gb299) (o := .cells #[.int .i64 t295, .int .i64 t296, .int .i64 t297] 54 (0, 0)) (by (with_reducible repeat (first | refine blk_drewN ?_ _ | refine blk_drew ?_ | refine blk_alloc ?_ _)); exact BK299.out) hb); have n4_ := Aside0.mk (blk_below (g := gb312) (o := .cells #[.int .i64 t308, .int .i64 t309, .int .i64 t310] 54 (0, 0)) (by (with_reducible repeat (first | refine blk_drewN ?_ _ | refine blk_drew ?_ | refine blk_alloc ?_ _)); exact BK312.out) hb); have n5_ := Aside0.mk (below_step (by repeat (first | (with_reducible first | exact HB.out | apply below_alloc | apply pw_below_drewN | apply below_drew1 | refine below_set ?_ GE287.out | refine below_set ?_ GE290.out | refine below_set ?_ GE299.out | refine below_set ?_ GE312.out) | exact HB.out)) hb); clear HO_157; clear BK287; clear BK290; clear BK299; clear BK312; clear HB; have HO_157 := n0_; have BK287 := n1_; have BK290 := n2_; have BK299 := n3_; have BK312 := n4_; have HB := n5_; clear n0_ n1_ n2_ n3_ n4_ n5_; (try clear hb); (try clear hb2); (try clear hk); (try clear hi)))
                                                              go_ret
                                                              exact ⟨by first | rfl | (simp [errW_none, errW_some] <;> rfl) | (simp only [← hji91, ← hji97]; first | rfl | (simp [errW_none, errW_some] <;> rfl)) | (simp [*, errW_none, errW_some] <;> rfl), by repeat (first | (with_reducible first | exact HB.out | apply below_alloc | apply pw_below_drewN | apply below_drew1 | refine below_set ?_ GE287.out | refine below_set ?_ GE290.out | refine below_set ?_ GE299.out | refine below_set ?_ GE312.out) | exact HB.out)⟩
                                                          · rw [if_neg c118] at H
                                                            have c118b0 : (t313.toList == (rdOf ByteArray.empty y304 x159_3).toList) = false := beq_eq_false_iff_ne.mpr c118
                                                            have c118b1 : (t313.toList != (rdOf ByteArray.empty y304 x159_3).toList) = true := bne_iff_ne.mpr c118
                                                            obtain rfl := Option.some.inj H
                                                            have p307 : 0 ≤ (x159_3 : Int) := of_decide_eq_true (by first | (with_reducible assumption) | assumption)
                                                            have q307 : x159_3 < (y304.length : Int) := of_decide_eq_true (by first | (with_reducible assumption) | assumption)
                                                            obtain ⟨ad307, e307, hx307_0⟩ := Kd.at_string (Kd.R_reads' HO_157.out).2.2 x159_3 p307 q307
                                                            cases e307
                                                            replace p307 := eq_true p307
                                                            replace q307 := eq_true q307
                                                            go_wp2_with (first | ((with_reducible refine gate_callee (f := 37) rfl ?_); refine goesL_ (some 165) rfl rfl Try.func37 (by kernel_rfl) rfl #[.string (rdOf ByteArray.empty y304 x159_3)] rfl (by (try simp only [List.map_toArray, List.map_cons, List.map_nil]); first | done | rfl | (simp only [List.length_drop, List.length_take]; rfl)) ?_; (with_reducible refine (life_Decode.calls (rdOf ByteArray.empty y304 x159_3) t308 t309 t310 t311 _ A114.out).mono ?_); rintro e w139 ⟨rfl, hb⟩; refine ⟨_, rfl, ?_⟩; have n0_ := Aside0.mk (Kd.R_below (by (with_reducible repeat (first | apply Kd.R_alloc | apply Kd.R_drewN | apply Kd.R_drew)); exact HO_157.out) hb); have n1_ := Aside0.mk (blk_below (g := gb287) (o := .cells #[.int .i64 ((rd_T54 y282 t285).f0), .int .i64 ((rd_T54 y282 t285).f1), .int .i64 ((rd_T54 y282 t285).f2)] 54 (0, 0)) (by (with_reducible repeat (first | refine blk_drewN ?_ _ | refine blk_drew ?_ | refine blk_alloc ?_ _)); exact BK287.out) hb); have n2_ := Aside0.mk (blk_below (g := gb290) (o := .cells #[.int .i64 ((rd_T54 y282 t288).f0), .int .i64 ((rd_T54 y282 t288).f1), .int .i64 ((rd_T54 y282 t288).f2)] 54 (0, 0)) (by (with_reducible repeat (first | refine blk_drewN ?_ _ | refine blk_drew ?_ | refine blk_alloc ?_ _)); exact BK290.out) hb); have n3_ := Aside0.mk (blk_below (g := gb299) (o := .cells #[.int .i64 t295, .int .i64 t296, .int .i64 t297] 54 (0, 0)) (by (with_reducible repeat (first | refine blk_drewN ?_ _ | refine blk_drew ?_ | refine blk_alloc ?_ _)); exact BK299.out) hb); have n4_ := Aside0.mk (below_step (by repeat (first | (with_reducible first | exact HB.out | apply below_alloc | apply pw_below_drewN | apply below_drew1 | refine below_set ?_ GE287.out | refine below_set ?_ GE290.out | refine below_set ?_ GE299.out) | exact HB.out)) hb); clear HO_157; clear BK287; clear BK290; clear BK299; clear HB; have HO_157 := n0_; have BK287 := n1_; have BK290 := n2_; have BK299 := n3_; have HB := n4_; clear n0_ n1_ n2_ n3_ n4_; (try clear hb); (try clear hb2); (try clear hk); (try clear hi)) | ((with_reducible refine gate_dst (N := 25) rfl ?_); (try (refine gate_guard (by rfl) ?_; dsimp only)); refine box_event ?hg (N := 25) ?hd (cs := #[.int .i64 0, .int .i64 0, .int .i64 0]) (t := 54) ?hr ?_; (case hd => rfl); (case hg => rfl); (case hr => first | (go_simp; done) | (go_simp; rfl)); intro gb312 hg w140 hbox hb; have n0_ := Aside0.mk (Kd.R_below (by (with_reducible repeat (first | apply Kd.R_alloc | apply Kd.R_drewN | apply Kd.R_drew)); exact HO_157.out) hb); have n1_ := Aside0.mk (blk_below (g := gb287) (o := .cells #[.int .i64 ((rd_T54 y282 t285).f0), .int .i64 ((rd_T54 y282 t285).f1), .int .i64 ((rd_T54 y282 t285).f2)] 54 (0, 0)) (by (with_reducible repeat (first | refine blk_drewN ?_ _ | refine blk_drew ?_ | refine blk_alloc ?_ _)); exact BK287.out) hb); have n2_ := Aside0.mk (blk_below (g := gb290) (o := .cells #[.int .i64 ((rd_T54 y282 t288).f0), .int .i64 ((rd_T54 y282 t288).f1), .int .i64 ((rd_T54 y282 t288).f2)] 54 (0, 0)) (by (with_reducible repeat (first | refine blk_drewN ?_ _ | refine blk_drew ?_ | refine blk_alloc ?_ _)); exact BK290.out) hb); have n3_ := Aside0.mk (blk_below (g := gb299) (o := .cells #[.int .i64 t295, .int .i64 t296, .int .i64 t297] 54 (0, 0)) (by (with_reducible repeat (first | refine blk_drewN ?_ _ | refine blk_drew ?_ | refine blk_alloc ?_ _)); exact BK299.out) hb); have n4_ := Aside0.mk (below_step (by repeat (first | (with_reducible first | exact HB.out | apply below_alloc | apply pw_below_drewN | apply below_drew1 | refine below_set ?_ GE287.out | refine below_set ?_ GE290.out | refine below_set ?_ GE299.out) | exact HB.out)) hb); have n5_ := Aside0.mk (hbox); have n6_ := Aside0.mk ((by rw [hg]; exact (below_size (by repeat (first | (with_reducible first | exact HB.out | apply below_alloc | apply pw_below_drewN | apply below_drew1 | refine below_set ?_ GE287.out | refine below_set ?_ GE290.out | refine below_set ?_ GE299.out) | exact HB.out))) : w.heap.size ≤ gb312)); have n7_ := Aside0.mk ((by rw [hg]; exact (below_size (by repeat (first | (with_reducible first | exact HB.out | apply below_alloc | apply pw_below_drewN | apply below_drew1 | refine below_set ?_ GE287.out | refine below_set ?_ GE290.out | refine below_set ?_ GE299.out) | exact HB.out))) : w.heap.size ≤ gb312)); have n8_ := Aside0.mk ((by rw [hg]; exact Nat.ne_of_lt (blk_lt (g := gb287) (o := .cells #[.int .i64 ((rd_T54 y282 t285).f0), .int .i64 ((rd_T54 y282 t285).f1), .int .i64 ((rd_T54 y282 t285).f2)] 54 (0, 0)) (by (with_reducible repeat (first | refine blk_drewN ?_ _ | refine blk_drew ?_ | refine blk_alloc ?_ _)); exact BK287.out)) : gb287 ≠ gb312)); have n9_ := Aside0.mk ((by rw [hg]; exact Nat.ne_of_gt (blk_lt (g := gb287) (o := .cells #[.int .i64 ((rd_T54 y282 t285).f0), .int .i64 ((rd_T54 y282 t285).f1), .int .i64 ((rd_T54 y282 t285).f2)] 54 (0, 0)) (by (with_reducible repeat (first | refine blk_drewN ?_ _ | refine blk_drew ?_ | refine blk_alloc ?_ _)); exact BK287.out)) : gb312 ≠ gb287)); have n10_ := Aside0.mk ((by rw [hg]; exact Nat.ne_of_lt (blk_lt (g := gb290) (o := .cells #[.int .i64 ((rd_T54 y282 t288).f0), .int .i64 ((rd_T54 y282 t288).f1), .int .i64 ((rd_T54 y282 t288).f2)] 54 (0, 0)) (by (with_reducible repeat (first | refine blk_drewN ?_ _ | refine blk_drew ?_ | refine blk_alloc ?_ _)); exact BK290.out)) : gb290 ≠ gb312)); have n11_ := Aside0.mk ((by rw [hg]; exact Nat.ne_of_gt (blk_lt (g := gb290) (o := .cells #[.int .i64 ((rd_T54 y282 t288).f0), .int .i64 ((rd_T54 y282 t288).f1), .int .i64 ((rd_T54 y282 t288).f2)] 54 (0, 0)) (by (with_reducible repeat (first | refine blk_drewN ?_ _ | refine blk_drew ?_ | refine blk_alloc ?_ _)); exact BK290.out)) : gb312 ≠ gb290)); have n12_ := Aside0.mk ((by rw [hg]; exact Nat.ne_of_lt (blk_lt (g := gb299) (o := .cells #[.int .i64 t295, .int .i64 t296, .int .i64 t297] 54 (0, 0)) (by (with_reducible repeat (first | refine blk_drewN ?_ _ | refine blk_drew ?_ | refine blk_alloc ?_ _)); exact BK299.out)) : gb299 ≠ gb312)); have n13_ := Aside0.mk ((by rw [hg]; exact Nat.ne_of_gt (blk_lt (g := gb299) (o := .cells #[.int .i64 t295, .int .i64 t296, .int .i64 t297] 54 (0, 0)) (by (with_reducible repeat (first | refine blk_drewN ?_ _ | refine blk_drew ?_ | refine blk_alloc ?_ _)); exact BK299.out)) : gb312 ≠ gb299)); clear HO_157; clear BK287; clear BK290; clear BK299; clear HB; have HO_157 := n0_; have BK287 := n1_; have BK290 := n2_; have BK299 := n3_; have HB := n4_; have BK312 := n5_; have GW312 := n6_; have GE312 := n7_; have NB287_312 := n8_; have NB312_287 := n9_; have NB290_312 := n10_; have NB312_290 := n11_; have NB299_312 := n12_; have NB312_299 := n13_; clear n0_ n1_ n2_ n3_ n4_ n5_ n6_ n7_ n8_ n9_ n10_ n11_ n12_ n13_; clear hb hbox hg; have hnb141 := NB312_287.out; have hnc141 := NB287_312.out; have hnb142 := NB312_290.out; have hnc142 := NB290_312.out; have hnb143 := NB312_299.out; have hnc143 := NB299_312.out; have hcz144_0 : w140.cell? ⟨gb312, 0, none⟩ = some (.int .i64 0) := (blk_cell BK312.out 0).trans rfl; have hcz144_1 : w140.cell? ⟨gb312, 1, none⟩ = some (.int .i64 0) := (blk_cell BK312.out 1).trans rfl; have hcz144_2 : w140.cell? ⟨gb312, 2, none⟩ = some (.int .i64 0) := (blk_cell BK312.out 2).trans rfl; have hfz144_0 := blk_frozen BK312.out 0; have hfz144_1 := blk_frozen BK312.out 1; have hfz144_2 := blk_frozen BK312.out 2) | ((with_reducible refine gate_callee (f := 36) rfl ?_); refine goesL_ (some 172) rfl rfl Try.func36 (by kernel_rfl) rfl #[.agg #[.int .i64 t308, .int .i64 t309, .int .i64 t310]] rfl (by (try simp only [List.map_toArray, List.map_cons, List.map_nil]); first | done | rfl | (simp only [List.length_drop, List.length_take]; rfl)) ?_; (with_reducible refine (life_Encode.calls t308 t309 t310 t313 t314 _ A116.out).mono ?_); rintro e w145 ⟨rfl, hb⟩; refine ⟨_, rfl, ?_⟩; have n0_ := Aside0.mk (Kd.R_below (by (with_reducible repeat (first | apply Kd.R_alloc | apply Kd.R_drewN | apply Kd.R_drew)); exact (Kd.R_mono (Kd.R_far (p := ⟨gb312, 2, none⟩) (Kd.R_far (p := ⟨gb312, 1, none⟩) (Kd.R_far (p := ⟨gb312, 0, none⟩) (Kd.R_types HO_157.out BK312.out (by decide)) (fun _ hk => hk.2) (.int .i64 t308)) (fun _ hk => hk.2) (.int .i64 t309)) (fun _ hk => hk.2) (.int .i64 t310)) (fun _ h_ => h_.1))) hb); have n1_ := Aside0.mk (blk_below (g := gb287) (o := .cells #[.int .i64 ((rd_T54 y282 t285).f0), .int .i64 ((rd_T54 y282 t285).f1), .int .i64 ((rd_T54 y282 t285).f2)] 54 (0, 0)) (by (with_reducible repeat (first | refine blk_drewN ?_ _ | refine blk_drew ?_ | refine blk_alloc ?_ _)); refine blk_far ?_ NB287_312.out _; (with_reducible repeat (first | refine blk_drewN ?_ _ | refine blk_drew ?_ | refine blk_alloc ?_ _)); refine blk_far ?_ NB287_312.out _; (with_reducible repeat (first | refine blk_drewN ?_ _ | refine blk_drew ?_ | refine blk_alloc ?_ _)); refine blk_far ?_ NB287_312.out _; (with_reducible repeat (first | refine blk_drewN ?_ _ | refine blk_drew ?_ | refine blk_alloc ?_ _)); exact BK287.out) hb); have n2_ := Aside0.mk (blk_below (g := gb290) (o := .cells #[.int .i64 ((rd_T54 y282 t288).f0), .int .i64 ((rd_T54 y282 t288).f1), .int .i64 ((rd_T54 y282 t288).f2)] 54 (0, 0)) (by (with_reducible repeat (first | refine blk_drewN ?_ _ | refine blk_drew ?_ | refine blk_alloc ?_ _)); refine blk_far ?_ NB290_312.out _; (with_reducible repeat (first | refine blk_drewN ?_ _ | refine blk_drew ?_ | refine blk_alloc ?_ _)); refine blk_far ?_ NB290_312.out _; (with_reducible repeat (first | refine blk_drewN ?_ _ | refine blk_drew ?_ | refine blk_alloc ?_ _)); refine blk_far ?_ NB290_312.out _; (with_reducible repeat (first | refine blk_drewN ?_ _ | refine blk_drew ?_ | refine blk_alloc ?_ _)); exact BK290.out) hb); have n3_ := Aside0.mk (blk_below (g := gb299) (o := .cells #[.int .i64 t295, .int .i64 t296, .int .i64 t297] 54 (0, 0)) (by (with_reducible repeat (first | refine blk_drewN ?_ _ | refine blk_drew ?_ | refine blk_alloc ?_ _)); refine blk_far ?_ NB299_312.out _; (with_reducible repeat (first | refine blk_drewN ?_ _ | refine blk_drew ?_ | refine blk_alloc ?_ _)); refine blk_far ?_ NB299_312.out _; (with_reducible repeat (first | refine blk_drewN ?_ _ | refine blk_drew ?_ | refine blk_alloc ?_ _)); refine blk_far ?_ NB299_312.out _; (with_reducible repeat (first | refine blk_drewN ?_ _ | refine blk_drew ?_ | refine blk_alloc ?_ _)); exact BK299.out) hb); have n4_ := Aside0.mk (blk_below (g := gb312) (o := .cells #[.int .i64 t308, .int .i64 t309, .int .i64 t310] 54 (0, 0)) (by (with_reducible repeat (first | refine blk_drewN ?_ _ | refine blk_drew ?_ | refine blk_alloc ?_ _)); refine blk_put (cs := #[.int .i64 t308, .int .i64 t309, .int .i64 0]) ?_ 2 _ rfl; (with_reducible repeat (first | refine blk_drewN ?_ _ | refine blk_drew ?_ | refine blk_alloc ?_ _)); refine blk_put (cs := #[.int .i64 t308, .int .i64 0, .int .i64 0]) ?_ 1 _ rfl; (with_reducible repeat (first | refine blk_drewN ?_ _ | refine blk_drew ?_ | refine blk_alloc ?_ _)); refine blk_put (cs := #[.int .i64 0, .int .i64 0, .int .i64 0]) ?_ 0 _ rfl; (with_reducible repeat (first | refine blk_drewN ?_ _ | refine blk_drew ?_ | refine blk_alloc ?_ _)); exact BK312.out) hb); have n5_ := Aside0.mk (below_step (by repeat (first | (with_reducible first | exact HB.out | apply below_alloc | apply pw_below_drewN | apply below_drew1 | refine below_set ?_ GE287.out | refine below_set ?_ GE290.out | refine below_set ?_ GE299.out | refine below_set ?_ GE312.out) | exact HB.out)) hb); clear HO_157; clear BK287; clear BK290; clear BK299; clear BK312; clear HB; have HO_157 := n0_; have BK287 := n1_; have BK290 := n2_; have BK299 := n3_; have BK312 := n4_; have HB := n5_; clear n0_ n1_ n2_ n3_ n4_ n5_; (try clear hb); (try clear hb2); (try clear hk); (try clear hi)))
                                                            go_ret
                                                            exact ⟨by first | rfl | (simp [errW_none, errW_some] <;> rfl) | (simp only [← hji91, ← hji97]; first | rfl | (simp [errW_none, errW_some] <;> rfl)) | (simp [*, errW_none, errW_some] <;> rfl), by repeat (first | (with_reducible first | exact HB.out | apply below_alloc | apply pw_below_drewN | apply below_drew1 | refine below_set ?_ GE287.out | refine below_set ?_ GE290.out | refine below_set ?_ GE299.out | refine below_set ?_ GE312.out) | exact HB.out)⟩
                                                        · rw [if_neg c117] at H
                                                          have c117b0 : (t314 == 0) = false := beq_eq_false_iff_ne.mpr c117
                                                          have c117b1 : (t314 != 0) = true := bne_iff_ne.mpr c117
                                                          obtain rfl := Option.some.inj H
                                                          have p307 : 0 ≤ (x159_3 : Int) := of_decide_eq_true (by first | (with_reducible assumption) | assumption)
                                                          have q307 : x159_3 < (y304.length : Int) := of_decide_eq_true (by first | (with_reducible assumption) | assumption)
                                                          obtain ⟨ad307, e307, hx307_0⟩ := Kd.at_string (Kd.R_reads' HO_157.out).2.2 x159_3 p307 q307
                                                          cases e307
                                                          replace p307 := eq_true p307
                                                          replace q307 := eq_true q307
                                                          go_wp2_with (first | ((with_reducible refine gate_callee (f := 37) rfl ?_); refine goesL_ (some 165) rfl rfl Try.func37 (by kernel_rfl) rfl #[.string (rdOf ByteArray.empty y304 x159_3)] rfl (by (try simp only [List.map_toArray, List.map_cons, List.map_nil]); first | done | rfl | (simp only [List.length_drop, List.length_take]; rfl)) ?_; (with_reducible refine (life_Decode.calls (rdOf ByteArray.empty y304 x159_3) t308 t309 t310 t311 _ A114.out).mono ?_); rintro e w146 ⟨rfl, hb⟩; refine ⟨_, rfl, ?_⟩; have n0_ := Aside0.mk (Kd.R_below (by (with_reducible repeat (first | apply Kd.R_alloc | apply Kd.R_drewN | apply Kd.R_drew)); exact HO_157.out) hb); have n1_ := Aside0.mk (blk_below (g := gb287) (o := .cells #[.int .i64 ((rd_T54 y282 t285).f0), .int .i64 ((rd_T54 y282 t285).f1), .int .i64 ((rd_T54 y282 t285).f2)] 54 (0, 0)) (by (with_reducible repeat (first | refine blk_drewN ?_ _ | refine blk_drew ?_ | refine blk_alloc ?_ _)); exact BK287.out) hb); have n2_ := Aside0.mk (blk_below (g := gb290) (o := .cells #[.int .i64 ((rd_T54 y282 t288).f0), .int .i64 ((rd_T54 y282 t288).f1), .int .i64 ((rd_T54 y282 t288).f2)] 54 (0, 0)) (by (with_reducible repeat (first | refine blk_drewN ?_ _ | refine blk_drew ?_ | refine blk_alloc ?_ _)); exact BK290.out) hb); have n3_ := Aside0.mk (blk_below (g := gb299) (o := .cells #[.int .i64 t295, .int .i64 t296, .int .i64 t297] 54 (0, 0)) (by (with_reducible repeat (first | refine blk_drewN ?_ _ | refine blk_drew ?_ | refine blk_alloc ?_ _)); exact BK299.out) hb); have n4_ := Aside0.mk (below_step (by repeat (first | (with_reducible first | exact HB.out | apply below_alloc | apply pw_below_drewN | apply below_drew1 | refine below_set ?_ GE287.out | refine below_set ?_ GE290.out | refine below_set ?_ GE299.out) | exact HB.out)) hb); clear HO_157; clear BK287; clear BK290; clear BK299; clear HB; have HO_157 := n0_; have BK287 := n1_; have BK290 := n2_; have BK299 := n3_; have HB := n4_; clear n0_ n1_ n2_ n3_ n4_; (try clear hb); (try clear hb2); (try clear hk); (try clear hi)) | ((with_reducible refine gate_dst (N := 25) rfl ?_); (try (refine gate_guard (by rfl) ?_; dsimp only)); refine box_event ?hg (N := 25) ?hd (cs := #[.int .i64 0, .int .i64 0, .int .i64 0]) (t := 54) ?hr ?_; (case hd => rfl); (case hg => rfl); (case hr => first | (go_simp; done) | (go_simp; rfl)); intro gb312 hg w147 hbox hb; have n0_ := Aside0.mk (Kd.R_below (by (with_reducible repeat (first | apply Kd.R_alloc | apply Kd.R_drewN | apply Kd.R_drew)); exact HO_157.out) hb); have n1_ := Aside0.mk (blk_below (g := gb287) (o := .cells #[.int .i64 ((rd_T54 y282 t285).f0), .int .i64 ((rd_T54 y282 t285).f1), .int .i64 ((rd_T54 y282 t285).f2)] 54 (0, 0)) (by (with_reducible repeat (first | refine blk_drewN ?_ _ | refine blk_drew ?_ | refine blk_alloc ?_ _)); exact BK287.out) hb); have n2_ := Aside0.mk (blk_below (g := gb290) (o := .cells #[.int .i64 ((rd_T54 y282 t288).f0), .int .i64 ((rd_T54 y282 t288).f1), .int .i64 ((rd_T54 y282 t288).f2)] 54 (0, 0)) (by (with_reducible repeat (first | refine blk_drewN ?_ _ | refine blk_drew ?_ | refine blk_alloc ?_ _)); exact BK290.out) hb); have n3_ := Aside0.mk (blk_below (g := gb299) (o := .cells #[.int .i64 t295, .int .i64 t296, .int .i64 t297] 54 (0, 0)) (by (with_reducible repeat (first | refine blk_drewN ?_ _ | refine blk_drew ?_ | refine blk_alloc ?_ _)); exact BK299.out) hb); have n4_ := Aside0.mk (below_step (by repeat (first | (with_reducible first | exact HB.out | apply below_alloc | apply pw_below_drewN | apply below_drew1 | refine below_set ?_ GE287.out | refine below_set ?_ GE290.out | refine below_set ?_ GE299.out) | exact HB.out)) hb); have n5_ := Aside0.mk (hbox); have n6_ := Aside0.mk ((by rw [hg]; exact (below_size (by repeat (first | (with_reducible first | exact HB.out | apply below_alloc | apply pw_below_drewN | apply below_drew1 | refine below_set ?_ GE287.out | refine below_set ?_ GE290.out | refine below_set ?_ GE299.out) | exact HB.out))) : w.heap.size ≤ gb312)); have n7_ := Aside0.mk ((by rw [hg]; exact (below_size (by repeat (first | (with_reducible first | exact HB.out | apply below_alloc | apply pw_below_drewN | apply below_drew1 | refine below_set ?_ GE287.out | refine below_set ?_ GE290.out | refine below_set ?_ GE299.out) | exact HB.out))) : w.heap.size ≤ gb312)); have n8_ := Aside0.mk ((by rw [hg]; exact Nat.ne_of_lt (blk_lt (g := gb287) (o := .cells #[.int .i64 ((rd_T54 y282 t285).f0), .int .i64 ((rd_T54 y282 t285).f1), .int .i64 ((rd_T54 y282 t285).f2)] 54 (0, 0)) (by (with_reducible repeat (first | refine blk_drewN ?_ _ | refine blk_drew ?_ | refine blk_alloc ?_ _)); exact BK287.out)) : gb287 ≠ gb312)); have n9_ := Aside0.mk ((by rw [hg]; exact Nat.ne_of_gt (blk_lt (g := gb287) (o := .cells #[.int .i64 ((rd_T54 y282 t285).f0), .int .i64 ((rd_T54 y282 t285).f1), .int .i64 ((rd_T54 y282 t285).f2)] 54 (0, 0)) (by (with_reducible repeat (first | refine blk_drewN ?_ _ | refine blk_drew ?_ | refine blk_alloc ?_ _)); exact BK287.out)) : gb312 ≠ gb287)); have n10_ := Aside0.mk ((by rw [hg]; exact Nat.ne_of_lt (blk_lt (g := gb290) (o := .cells #[.int .i64 ((rd_T54 y282 t288).f0), .int .i64 ((rd_T54 y282 t288).f1), .int .i64 ((rd_T54 y282 t288).f2)] 54 (0, 0)) (by (with_reducible repeat (first | refine blk_drewN ?_ _ | refine blk_drew ?_ | refine blk_alloc ?_ _)); exact BK290.out)) : gb290 ≠ gb312)); have n11_ := Aside0.mk ((by rw [hg]; exact Nat.ne_of_gt (blk_lt (g := gb290) (o := .cells #[.int .i64 ((rd_T54 y282 t288).f0), .int .i64 ((rd_T54 y282 t288).f1), .int .i64 ((rd_T54 y282 t288).f2)] 54 (0, 0)) (by (with_reducible repeat (first | refine blk_drewN ?_ _ | refine blk_drew ?_ | refine blk_alloc ?_ _)); exact BK290.out)) : gb312 ≠ gb290)); have n12_ := Aside0.mk ((by rw [hg]; exact Nat.ne_of_lt (blk_lt (g := gb299) (o := .cells #[.int .i64 t295, .int .i64 t296, .int .i64 t297] 54 (0, 0)) (by (with_reducible repeat (first | refine blk_drewN ?_ _ | refine blk_drew ?_ | refine blk_alloc ?_ _)); exact BK299.out)) : gb299 ≠ gb312)); have n13_ := Aside0.mk ((by rw [hg]; exact Nat.ne_of_gt (blk_lt (g := gb299) (o := .cells #[.int .i64 t295, .int .i64 t296, .int .i64 t297] 54 (0, 0)) (by (with_reducible repeat (first | refine blk_drewN ?_ _ | refine blk_drew ?_ | refine blk_alloc ?_ _)); exact BK299.out)) : gb312 ≠ gb299)); clear HO_157; clear BK287; clear BK290; clear BK299; clear HB; have HO_157 := n0_; have BK287 := n1_; have BK290 := n2_; have BK299 := n3_; have HB := n4_; have BK312 := n5_; have GW312 := n6_; have GE312 := n7_; have NB287_312 := n8_; have NB312_287 := n9_; have NB290_312 := n10_; have NB312_290 := n11_; have NB299_312 := n12_; have NB312_299 := n13_; clear n0_ n1_ n2_ n3_ n4_ n5_ n6_ n7_ n8_ n9_ n10_ n11_ n12_ n13_; clear hb hbox hg; have hnb148 := NB312_287.out; have hnc148 := NB287_312.out; have hnb149 := NB312_290.out; have hnc149 := NB290_312.out; have hnb150 := NB312_299.out; have hnc150 := NB299_312.out; have hcz151_0 : w147.cell? ⟨gb312, 0, none⟩ = some (.int .i64 0) := (blk_cell BK312.out 0).trans rfl; have hcz151_1 : w147.cell? ⟨gb312, 1, none⟩ = some (.int .i64 0) := (blk_cell BK312.out 1).trans rfl; have hcz151_2 : w147.cell? ⟨gb312, 2, none⟩ = some (.int .i64 0) := (blk_cell BK312.out 2).trans rfl; have hfz151_0 := blk_frozen BK312.out 0; have hfz151_1 := blk_frozen BK312.out 1; have hfz151_2 := blk_frozen BK312.out 2) | ((with_reducible refine gate_callee (f := 36) rfl ?_); refine goesL_ (some 172) rfl rfl Try.func36 (by kernel_rfl) rfl #[.agg #[.int .i64 t308, .int .i64 t309, .int .i64 t310]] rfl (by (try simp only [List.map_toArray, List.map_cons, List.map_nil]); first | done | rfl | (simp only [List.length_drop, List.length_take]; rfl)) ?_; (with_reducible refine (life_Encode.calls t308 t309 t310 t313 t314 _ A116.out).mono ?_); rintro e w152 ⟨rfl, hb⟩; refine ⟨_, rfl, ?_⟩; have n0_ := Aside0.mk (Kd.R_below (by (with_reducible repeat (first | apply Kd.R_alloc | apply Kd.R_drewN | apply Kd.R_drew)); exact (Kd.R_mono (Kd.R_far (p := ⟨gb312, 2, none⟩) (Kd.R_far (p := ⟨gb312, 1, none⟩) (Kd.R_far (p := ⟨gb312, 0, none⟩) (Kd.R_types HO_157.out BK312.out (by decide)) (fun _ hk => hk.2) (.int .i64 t308)) (fun _ hk => hk.2) (.int .i64 t309)) (fun _ hk => hk.2) (.int .i64 t310)) (fun _ h_ => h_.1))) hb); have n1_ := Aside0.mk (blk_below (g := gb287) (o := .cells #[.int .i64 ((rd_T54 y282 t285).f0), .int .i64 ((rd_T54 y282 t285).f1), .int .i64 ((rd_T54 y282 t285).f2)] 54 (0, 0)) (by (with_reducible repeat (first | refine blk_drewN ?_ _ | refine blk_drew ?_ | refine blk_alloc ?_ _)); refine blk_far ?_ NB287_312.out _; (with_reducible repeat (first | refine blk_drewN ?_ _ | refine blk_drew ?_ | refine blk_alloc ?_ _)); refine blk_far ?_ NB287_312.out _; (with_reducible repeat (first | refine blk_drewN ?_ _ | refine blk_drew ?_ | refine blk_alloc ?_ _)); refine blk_far ?_ NB287_312.out _; (with_reducible repeat (first | refine blk_drewN ?_ _ | refine blk_drew ?_ | refine blk_alloc ?_ _)); exact BK287.out) hb); have n2_ := Aside0.mk (blk_below (g := gb290) (o := .cells #[.int .i64 ((rd_T54 y282 t288).f0), .int .i64 ((rd_T54 y282 t288).f1), .int .i64 ((rd_T54 y282 t288).f2)] 54 (0, 0)) (by (with_reducible repeat (first | refine blk_drewN ?_ _ | refine blk_drew ?_ | refine blk_alloc ?_ _)); refine blk_far ?_ NB290_312.out _; (with_reducible repeat (first | refine blk_drewN ?_ _ | refine blk_drew ?_ | refine blk_alloc ?_ _)); refine blk_far ?_ NB290_312.out _; (with_reducible repeat (first | refine blk_drewN ?_ _ | refine blk_drew ?_ | refine blk_alloc ?_ _)); refine blk_far ?_ NB290_312.out _; (with_reducible repeat (first | refine blk_drewN ?_ _ | refine blk_drew ?_ | refine blk_alloc ?_ _)); exact BK290.out) hb); have n3_ := Aside0.mk (blk_below (g := gb299) (o := .cells #[.int .i64 t295, .int .i64 t296, .int .i64 t297] 54 (0, 0)) (by (with_reducible repeat (first | refine blk_drewN ?_ _ | refine blk_drew ?_ | refine blk_alloc ?_ _)); refine blk_far ?_ NB299_312.out _; (with_reducible repeat (first | refine blk_drewN ?_ _ | refine blk_drew ?_ | refine blk_alloc ?_ _)); refine blk_far ?_ NB299_312.out _; (with_reducible repeat (first | refine blk_drewN ?_ _ | refine blk_drew ?_ | refine blk_alloc ?_ _)); refine blk_far ?_ NB299_312.out _; (with_reducible repeat (first | refine blk_drewN ?_ _ | refine blk_drew ?_ | refine blk_alloc ?_ _)); exact BK299.out) hb); have n4_ := Aside0.mk (blk_below (g := gb312) (o := .cells #[.int .i64 t308, .int .i64 t309, .int .i64 t310] 54 (0, 0)) (by (with_reducible repeat (first | refine blk_drewN ?_ _ | refine blk_drew ?_ | refine blk_alloc ?_ _)); refine blk_put (cs := #[.int .i64 t308, .int .i64 t309, .int .i64 0]) ?_ 2 _ rfl; (with_reducible repeat (first | refine blk_drewN ?_ _ | refine blk_drew ?_ | refine blk_alloc ?_ _)); refine blk_put (cs := #[.int .i64 t308, .int .i64 0, .int .i64 0]) ?_ 1 _ rfl; (with_reducible repeat (first | refine blk_drewN ?_ _ | refine blk_drew ?_ | refine blk_alloc ?_ _)); refine blk_put (cs := #[.int .i64 0, .int .i64 0, .int .i64 0]) ?_ 0 _ rfl; (with_reducible repeat (first | refine blk_drewN ?_ _ | refine blk_drew ?_ | refine blk_alloc ?_ _)); exact BK312.out) hb); have n5_ := Aside0.mk (below_step (by repeat (first | (with_reducible first | exact HB.out | apply below_alloc | apply pw_below_drewN | apply below_drew1 | refine below_set ?_ GE287.out | refine below_set ?_ GE290.out | refine below_set ?_ GE299.out | refine below_set ?_ GE312.out) | exact HB.out)) hb); clear HO_157; clear BK287; clear BK290; clear BK299; clear BK312; clear HB; have HO_157 := n0_; have BK287 := n1_; have BK290 := n2_; have BK299 := n3_; have BK312 := n4_; have HB := n5_; clear n0_ n1_ n2_ n3_ n4_ n5_; (try clear hb); (try clear hb2); (try clear hk); (try clear hi)))
                                                          go_ret
                                                          exact ⟨by first | rfl | (simp [errW_none, errW_some] <;> rfl) | (simp only [← hji91, ← hji97]; first | rfl | (simp [errW_none, errW_some] <;> rfl)) | (simp [*, errW_none, errW_some] <;> rfl), by repeat (first | (with_reducible first | exact HB.out | apply below_alloc | apply pw_below_drewN | apply below_drew1 | refine below_set ?_ GE287.out | refine below_set ?_ GE290.out | refine below_set ?_ GE299.out | refine below_set ?_ GE312.out) | exact HB.out)⟩
                                                      · rw [if_neg c115] at H
                                                        have c115b0 : (t311 == 0) = false := beq_eq_false_iff_ne.mpr c115
                                                        have c115b1 : (t311 != 0) = true := bne_iff_ne.mpr c115
                                                        have H' := Aside0.mk H
                                                        clear H
                                                        have p307 : 0 ≤ (x159_3 : Int) := of_decide_eq_true (by first | (with_reducible assumption) | assumption)
                                                        have q307 : x159_3 < (y304.length : Int) := of_decide_eq_true (by first | (with_reducible assumption) | assumption)
                                                        obtain ⟨ad307, e307, hx307_0⟩ := Kd.at_string (Kd.R_reads' HO_157.out).2.2 x159_3 p307 q307
                                                        cases e307
                                                        replace p307 := eq_true p307
                                                        replace q307 := eq_true q307
                                                        go_wp2_with (first | ((with_reducible refine gate_callee (f := 37) rfl ?_); refine goesL_ (some 165) rfl rfl Try.func37 (by kernel_rfl) rfl #[.string (rdOf ByteArray.empty y304 x159_3)] rfl (by (try simp only [List.map_toArray, List.map_cons, List.map_nil]); first | done | rfl | (simp only [List.length_drop, List.length_take]; rfl)) ?_; (with_reducible refine (life_Decode.calls (rdOf ByteArray.empty y304 x159_3) t308 t309 t310 t311 _ A114.out).mono ?_); rintro e w153 ⟨rfl, hb⟩; refine ⟨_, rfl, ?_⟩; have n0_ := Aside0.mk (Kd.R_below (by (with_reducible repeat (first | apply Kd.R_alloc | apply Kd.R_drewN | apply Kd.R_drew)); exact HO_157.out) hb); have n1_ := Aside0.mk (blk_below (g := gb287) (o := .cells #[.int .i64 ((rd_T54 y282 t285).f0), .int .i64 ((rd_T54 y282 t285).f1), .int .i64 ((rd_T54 y282 t285).f2)] 54 (0, 0)) (by (with_reducible repeat (first | refine blk_drewN ?_ _ | refine blk_drew ?_ | refine blk_alloc ?_ _)); exact BK287.out) hb); have n2_ := Aside0.mk (blk_below (g := gb290) (o := .cells #[.int .i64 ((rd_T54 y282 t288).f0), .int .i64 ((rd_T54 y282 t288).f1), .int .i64 ((rd_T54 y282 t288).f2)] 54 (0, 0)) (by (with_reducible repeat (first | refine blk_drewN ?_ _ | refine blk_drew ?_ | refine blk_alloc ?_ _)); exact BK290.out) hb); have n3_ := Aside0.mk (blk_below (g := gb299) (o := .cells #[.int .i64 t295, .int .i64 t296, .int .i64 t297] 54 (0, 0)) (by (with_reducible repeat (first | refine blk_drewN ?_ _ | refine blk_drew ?_ | refine blk_alloc ?_ _)); exact BK299.out) hb); have n4_ := Aside0.mk (below_step (by repeat (first | (with_reducible first | exact HB.out | apply below_alloc | apply pw_below_drewN | apply below_drew1 | refine below_set ?_ GE287.out | refine below_set ?_ GE290.out | refine below_set ?_ GE299.out) | exact HB.out)) hb); clear HO_157; clear BK287; clear BK290; clear BK299; clear HB; have HO_157 := n0_; have BK287 := n1_; have BK290 := n2_; have BK299 := n3_; have HB := n4_; clear n0_ n1_ n2_ n3_ n4_; (try clear hb); (try clear hb2); (try clear hk); (try clear hi)) | ((with_reducible refine gate_dst (N := 25) rfl ?_); (try (refine gate_guard (by rfl) ?_; dsimp only)); refine box_event ?hg (N := 25) ?hd (cs := #[.int .i64 0, .int .i64 0, .int .i64 0]) (t := 54) ?hr ?_; (case hd => rfl); (case hg => rfl); (case hr => first | (go_simp; done) | (go_simp; rfl)); intro gb312 hg w154 hbox hb; have n0_ := Aside0.mk (Kd.R_below (by (with_reducible repeat (first | apply Kd.R_alloc | apply Kd.R_drewN | apply Kd.R_drew)); exact HO_157.out) hb); have n1_ := Aside0.mk (blk_below (g := gb287) (o := .cells #[.int .i64 ((rd_T54 y282 t285).f0), .int .i64 ((rd_T54 y282 t285).f1), .int .i64 ((rd_T54 y282 t285).f2)] 54 (0, 0)) (by (with_reducible repeat (first | refine blk_drewN ?_ _ | refine blk_drew ?_ | refine blk_alloc ?_ _)); exact BK287.out) hb); have n2_ := Aside0.mk (blk_below (g := gb290) (o := .cells #[.int .i64 ((rd_T54 y282 t288).f0), .int .i64 ((rd_T54 y282 t288).f1), .int .i64 ((rd_T54 y282 t288).f2)] 54 (0, 0)) (by (with_reducible repeat (first | refine blk_drewN ?_ _ | refine blk_drew ?_ | refine blk_alloc ?_ _)); exact BK290.out) hb); have n3_ := Aside0.mk (blk_below (g := gb299) (o := .cells #[.int .i64 t295, .int .i64 t296, .int .i64 t297] 54 (0, 0)) (by (with_reducible repeat (first | refine blk_drewN ?_ _ | refine blk_drew ?_ | refine blk_alloc ?_ _)); exact BK299.out) hb); have n4_ := Aside0.mk (below_step (by repeat (first | (with_reducible first | exact HB.out | apply below_alloc | apply pw_below_drewN | apply below_drew1 | refine below_set ?_ GE287.out | refine below_set ?_ GE290.out | refine below_set ?_ GE299.out) | exact HB.out)) hb); have n5_ := Aside0.mk (hbox); have n6_ := Aside0.mk ((by rw [hg]; exact (below_size (by repeat (first | (with_reducible first | exact HB.out | apply below_alloc | apply pw_below_drewN | apply below_drew1 | refine below_set ?_ GE287.out | refine below_set ?_ GE290.out | refine below_set ?_ GE299.out) | exact HB.out))) : w.heap.size ≤ gb312)); have n7_ := Aside0.mk ((by rw [hg]; exact (below_size (by repeat (first | (with_reducible first | exact HB.out | apply below_alloc | apply pw_below_drewN | apply below_drew1 | refine below_set ?_ GE287.out | refine below_set ?_ GE290.out | refine below_set ?_ GE299.out) | exact HB.out))) : w.heap.size ≤ gb312)); have n8_ := Aside0.mk ((by rw [hg]; exact Nat.ne_of_lt (blk_lt (g := gb287) (o := .cells #[.int .i64 ((rd_T54 y282 t285).f0), .int .i64 ((rd_T54 y282 t285).f1), .int .i64 ((rd_T54 y282 t285).f2)] 54 (0, 0)) (by (with_reducible repeat (first | refine blk_drewN ?_ _ | refine blk_drew ?_ | refine blk_alloc ?_ _)); exact BK287.out)) : gb287 ≠ gb312)); have n9_ := Aside0.mk ((by rw [hg]; exact Nat.ne_of_gt (blk_lt (g := gb287) (o := .cells #[.int .i64 ((rd_T54 y282 t285).f0), .int .i64 ((rd_T54 y282 t285).f1), .int .i64 ((rd_T54 y282 t285).f2)] 54 (0, 0)) (by (with_reducible repeat (first | refine blk_drewN ?_ _ | refine blk_drew ?_ | refine blk_alloc ?_ _)); exact BK287.out)) : gb312 ≠ gb287)); have n10_ := Aside0.mk ((by rw [hg]; exact Nat.ne_of_lt (blk_lt (g := gb290) (o := .cells #[.int .i64 ((rd_T54 y282 t288).f0), .int .i64 ((rd_T54 y282 t288).f1), .int .i64 ((rd_T54 y282 t288).f2)] 54 (0, 0)) (by (with_reducible repeat (first | refine blk_drewN ?_ _ | refine blk_drew ?_ | refine blk_alloc ?_ _)); exact BK290.out)) : gb290 ≠ gb312)); have n11_ := Aside0.mk ((by rw [hg]; exact Nat.ne_of_gt (blk_lt (g := gb290) (o := .cells #[.int .i64 ((rd_T54 y282 t288).f0), .int .i64 ((rd_T54 y282 t288).f1), .int .i64 ((rd_T54 y282 t288).f2)] 54 (0, 0)) (by (with_reducible repeat (first | refine blk_drewN ?_ _ | refine blk_drew ?_ | refine blk_alloc ?_ _)); exact BK290.out)) : gb312 ≠ gb290)); have n12_ := Aside0.mk ((by rw [hg]; exact Nat.ne_of_lt (blk_lt (g := gb299) (o := .cells #[.int .i64 t295, .int .i64 t296, .int .i64 t297] 54 (0, 0)) (by (with_reducible repeat (first | refine blk_drewN ?_ _ | refine blk_drew ?_ | refine blk_alloc ?_ _)); exact BK299.out)) : gb299 ≠ gb312)); have n13_ := Aside0.mk ((by rw [hg]; exact Nat.ne_of_gt (blk_lt (g := gb299) (o := .cells #[.int .i64 t295, .int .i64 t296, .int .i64 t297] 54 (0, 0)) (by (with_reducible repeat (first | refine blk_drewN ?_ _ | refine blk_drew ?_ | refine blk_alloc ?_ _)); exact BK299.out)) : gb312 ≠ gb299)); clear HO_157; clear BK287; clear BK290; clear BK299; clear HB; have HO_157 := n0_; have BK287 := n1_; have BK290 := n2_; have BK299 := n3_; have HB := n4_; have BK312 := n5_; have GW312 := n6_; have GE312 := n7_; have NB287_312 := n8_; have NB312_287 := n9_; have NB290_312 := n10_; have NB312_290 := n11_; have NB299_312 := n12_; have NB312_299 := n13_; clear n0_ n1_ n2_ n3_ n4_ n5_ n6_ n7_ n8_ n9_ n10_ n11_ n12_ n13_; clear hb hbox hg; have hnb155 := NB312_287.out; have hnc155 := NB287_312.out; have hnb156 := NB312_290.out; have hnc156 := NB290_312.out; have hnb157 := NB312_299.out; have hnc157 := NB299_312.out; have hcz158_0 : w154.cell? ⟨gb312, 0, none⟩ = some (.int .i64 0) := (blk_cell BK312.out 0).trans rfl; have hcz158_1 : w154.cell? ⟨gb312, 1, none⟩ = some (.int .i64 0) := (blk_cell BK312.out 1).trans rfl; have hcz158_2 : w154.cell? ⟨gb312, 2, none⟩ = some (.int .i64 0) := (blk_cell BK312.out 2).trans rfl; have hfz158_0 := blk_frozen BK312.out 0; have hfz158_1 := blk_frozen BK312.out 1; have hfz158_2 := blk_frozen BK312.out 2))
                                                        go_roundg k3
                                                        case measure => have := HJ20.out; have := HJ76.out; have := HK3.out; omega
                                                        case rel => exact ⟨(wrap64 (x159_3 + 1)), (by first | rfl | (simp; done) | (simp [*]; done)), H', ⟨by have := HJ20.out; have := HJ76.out; have := HK3.out; omega⟩, ⟨by (with_reducible repeat (first | apply Kd.R_alloc | apply Kd.R_drewN | apply Kd.R_drew)); exact Kd.R_mono (Kd.R_far (p := ⟨gb312, 2, none⟩) (Kd.R_far (p := ⟨gb312, 1, none⟩) (Kd.R_far (p := ⟨gb312, 0, none⟩) (Kd.R_types HO_157.out BK312.out (by decide)) (fun _ hk => hk.2) (.int .i64 t308)) (fun _ hk => hk.2) (.int .i64 t309)) (fun _ hk => hk.2) (.int .i64 t310)) (fun _ hk => trivial)⟩, ⟨by (with_reducible repeat (first | refine blk_drewN ?_ _ | refine blk_drew ?_ | refine blk_alloc ?_ _)); refine blk_far ?_ NB287_312.out _; (with_reducible repeat (first | refine blk_drewN ?_ _ | refine blk_drew ?_ | refine blk_alloc ?_ _)); refine blk_far ?_ NB287_312.out _; (with_reducible repeat (first | refine blk_drewN ?_ _ | refine blk_drew ?_ | refine blk_alloc ?_ _)); refine blk_far ?_ NB287_312.out _; (with_reducible repeat (first | refine blk_drewN ?_ _ | refine blk_drew ?_ | refine blk_alloc ?_ _)); exact BK287.out⟩, ⟨by (with_reducible repeat (first | refine blk_drewN ?_ _ | refine blk_drew ?_ | refine blk_alloc ?_ _)); refine blk_far ?_ NB290_312.out _; (with_reducible repeat (first | refine blk_drewN ?_ _ | refine blk_drew ?_ | refine blk_alloc ?_ _)); refine blk_far ?_ NB290_312.out _; (with_reducible repeat (first | refine blk_drewN ?_ _ | refine blk_drew ?_ | refine blk_alloc ?_ _)); refine blk_far ?_ NB290_312.out _; (with_reducible repeat (first | refine blk_drewN ?_ _ | refine blk_drew ?_ | refine blk_alloc ?_ _)); exact BK290.out⟩, ⟨by (with_reducible repeat (first | refine blk_drewN ?_ _ | refine blk_drew ?_ | refine blk_alloc ?_ _)); refine blk_far ?_ NB299_312.out _; (with_reducible repeat (first | refine blk_drewN ?_ _ | refine blk_drew ?_ | refine blk_alloc ?_ _)); refine blk_far ?_ NB299_312.out _; (with_reducible repeat (first | refine blk_drewN ?_ _ | refine blk_drew ?_ | refine blk_alloc ?_ _)); refine blk_far ?_ NB299_312.out _; (with_reducible repeat (first | refine blk_drewN ?_ _ | refine blk_drew ?_ | refine blk_alloc ?_ _)); exact BK299.out⟩, ⟨by repeat (first | (with_reducible first | exact HB.out | apply below_alloc | apply pw_below_drewN | apply below_drew1 | refine below_set ?_ GE287.out | refine below_set ?_ GE290.out | refine below_set ?_ GE299.out | refine below_set ?_ GE312.out) | exact HB.out)⟩⟩
                                                    · rw [if_neg c113] at H
                                                      exact absurd H (by simp)
                                                  · rw [if_neg c112] at H
                                                    exact absurd H (by simp)
                                                · rw [if_neg c111] at H
                                                  have c111b0 : decide (x159_3 < (y304.length : Int)) = false := decide_eq_false c111
                                                  clear c111
                                                  obtain rfl := Option.some.inj H
                                                  go_wp2
                                                  go_ret
                                                  exact ⟨by first | rfl | (simp [errW_none, errW_some] <;> rfl) | (simp only [← hji91, ← hji97]; first | rfl | (simp [errW_none, errW_some] <;> rfl)) | (simp [*, errW_none, errW_some] <;> rfl), by repeat (first | (with_reducible first | exact HB.out | apply below_alloc | apply pw_below_drewN | apply below_drew1 | refine below_set ?_ GE287.out | refine below_set ?_ GE290.out | refine below_set ?_ GE299.out) | exact HB.out)⟩
                                          · rw [if_neg c103] at H
                                            exact absurd H (by simp)
                                        · rw [if_neg c100] at H
                                          exact absurd H (by simp)
                                      · rw [if_neg c99] at H
                                        exact absurd H (by simp)
                                    · rw [if_neg c98] at H
                                      exact absurd H (by simp)
                                  · rw [if_neg c96] at H
                                    exact absurd H (by simp)
                                · rw [if_neg c95] at H
                                  exact absurd H (by simp)
                              · rw [if_neg c94] at H
                                exact absurd H (by simp)
                            · rw [if_neg c93] at H
                              exact absurd H (by simp)
                          · rw [if_neg c92] at H
                            exact absurd H (by simp)
            · rw [if_neg c17] at H
              exact absurd H (by simp)
          · rw [if_neg c16] at H
            exact absurd H (by simp)
        · rw [if_neg c14] at H
          exact absurd H (by simp)
      · rw [if_neg c13] at H
        exact absurd H (by simp)
    · rw [if_neg c11] at H
      exact absurd H (by simp)
  · replace c8 := Bool.eq_false_iff.mpr c8
    subst c8
    have H1 : (some false) = some r := by rw [if_neg (show ¬ (false = true) by decide)] at H; exact H
    clear H
    have H := H1
    clear H1
    obtain rfl := Option.some.inj H
    go_enter Try.func12, Try.ntmps12
    go_wp2_with (first | ((with_reducible refine gate_callee (f := 13) rfl ?_); refine goesL_ (some 29) rfl rfl Try.func13 (by kernel_rfl) rfl #[] rfl (by (try simp only [List.map_toArray, List.map_cons, List.map_nil]); first | done | rfl | (simp only [List.length_drop, List.length_take]; rfl)) ?_; (with_reducible refine (dialtonelaw14_sane.calls  false _ A7.out).mono ?_); rintro e w159 ⟨rfl, hb⟩; refine ⟨_, rfl, ?_⟩; have n0_ := Aside0.mk (below_step (by repeat (first | (with_reducible first | exact HB.out | apply below_alloc | apply pw_below_drewN | apply below_drew1) | exact HB.out)) hb); clear HB; have HB := n0_; clear n0_; (try clear hb); (try clear hb2); (try clear hk); (try clear hi)))
    go_ret
    exact ⟨by first | rfl | (simp [errW_none, errW_some] <;> rfl) | (simp [*, errW_none, errW_some] <;> rfl), by repeat (first | (with_reducible first | exact HB.out | apply below_alloc | apply pw_below_drewN | apply below_drew1) | exact HB.out)⟩

end Go.Proofs.Yteilkigdlkeiaaa.Q
