/- dialtonelaw01.sane answers true wherever the table holds its sixteen numbers. -/
import Derived.Test.YtoiikkfhbpeemaaDoorStr
namespace Go.Proofs.YtoiikkfhbpeemaaDoor.Sane
set_option linter.unusedVariables false
set_option linter.unusedSimpArgs false
open Go Go.RowKit Go.Proofs.YtoiikkfhbpeemaaDoor.PutInt Go.Proofs.YtoiikkfhbpeemaaDoor.IntW Go.Proofs.YtoiikkfhbpeemaaDoor.Str
open Go.Proofs.YtoiikkfhbpeemaaDoor.Leb

theorem p1 : putL (-64) = ([127], 0) := by
  unfold putL; rw [if_pos (by decide), show zig (-64) = 127 by decide, leb_lt (by decide)]; rfl
theorem p2 : putL 64 = ([128, 1], 0) := by
  unfold putL; rw [if_pos (by decide), show zig 64 = 128 by decide, leb_ge (by decide), leb_lt (by decide)]; rfl
theorem p8 : putL 4611686018427387904 = ([], 10) := by unfold putL; rw [if_neg (by decide)]
theorem p5 : putS [97, 98] = ([4, 97, 98], 0) := by
  unfold putS; rw [if_pos (by decide), show 2 * [(97 : UInt8), 98].length = 4 by decide, leb_lt (by decide)]; rfl

def tup2 (l : List UInt8) (e : Int) : Value := .tuple #[.string ⟨l.toArray⟩, .int .i64 e]

theorem q1 (w : World) : Calls Tryd.prog 12 #[.int .i64 (-64)] w fun e w' => e = .returned (.tuple #[.string ⟨#[127]⟩, .int .i64 0]) ∧ Below w.heap.size w w' := by
  have := PutInt.any (-64) w; rw [p1] at this; exact this
theorem q2 (w : World) : Calls Tryd.prog 12 #[.int .i64 64] w fun e w' => e = .returned (.tuple #[.string ⟨#[128, 1]⟩, .int .i64 0]) ∧ Below w.heap.size w w' := by
  have := PutInt.any 64 w; rw [p2] at this; exact this
theorem q3 (w : World) : Calls Tryd.prog 15 #[.string ⟨#[97, 172, 2, 98]⟩, .int .i64 1] w fun e w' => e = .returned (.tuple #[.int .i64 150, .int .i64 3, .int .i64 0]) ∧ w = w' := by
  have := IntW.any ⟨#[97, 172, 2, 98]⟩ 1 w (by decide)
  rw [show intL [97, 172, 2, 98] 1 = (150, 3, 0) by decide] at this; exact this
theorem q4 (w : World) : Calls Tryd.prog 15 #[.string ⟨#[128, 0]⟩, .int .i64 0] w fun e w' => e = .returned (.tuple #[.int .i64 0, .int .i64 0, .int .i64 10]) ∧ w = w' := by
  have := IntW.any ⟨#[128, 0]⟩ 0 w (by decide)
  rw [show intL [128, 0] 0 = (0, 0, 10) by decide] at this; exact this
theorem q5 (w : World) : Calls Tryd.prog 19 #[.string ⟨#[97, 98]⟩] w fun e w' => e = .returned (.tuple #[.string ⟨#[4, 97, 98]⟩, .int .i64 0]) ∧ Below w.heap.size w w' := by
  have := put_any ⟨#[97, 98]⟩ w (by decide); rw [p5] at this; exact this
theorem q6 (w : World) : Calls Tryd.prog 17 #[.string ⟨#[4, 97, 98, 99]⟩, .int .i64 0] w fun e w' => e = .returned (.tuple #[.string ⟨#[97, 98]⟩, .int .i64 3, .int .i64 0]) ∧ Below w.heap.size w w' := by
  have := str_any ⟨#[4, 97, 98, 99]⟩ 0 w (by decide)
  rw [show strL [4, 97, 98, 99] 0 = ([97, 98], 3, 0) by decide] at this; exact this
theorem q7 (w : World) : Calls Tryd.prog 17 #[.string ⟨#[4, 97]⟩, .int .i64 0] w fun e w' => e = .returned (.tuple #[.string ⟨#[]⟩, .int .i64 0, .int .i64 10]) ∧ Below w.heap.size w w' := by
  have := str_any ⟨#[4, 97]⟩ 0 w (by decide)
  rw [show strL [4, 97] 0 = ([], 0, 10) by decide] at this; exact this
theorem q8 (w : World) : Calls Tryd.prog 12 #[.int .i64 4611686018427387904] w fun e w' => e = .returned (.tuple #[.string ⟨#[]⟩, .int .i64 10]) ∧ Below w.heap.size w w' := by
  have := PutInt.any 4611686018427387904 w; rw [p8] at this; exact this
theorem q9 (w : World) : Calls Tryd.prog 15 #[.string ⟨#[]⟩, .int .i64 1] w fun e w' => e = .returned (.tuple #[.int .i64 0, .int .i64 0, .int .i64 2]) ∧ w = w' := by
  have := IntW.any ⟨#[]⟩ 1 w (by decide)
  rw [show intL [] 1 = (0, 0, 2) by decide] at this; exact this
theorem s10 : Crc.sum [49, 50, 51, 52, 53, 54, 55, 56, 57] = 3808858755 := by decide +kernel
theorem q10 (w : World) (h : Sum.Laid w) : Calls Tryd.prog 21 #[.string ⟨#[49, 50, 51, 52, 53, 54, 55, 56, 57]⟩] w fun e w' => e = .returned (.int .i64 3808858755) ∧ w = w' := by
  have := Sum.sum_any ⟨#[49, 50, 51, 52, 53, 54, 55, 56, 57]⟩ w (by decide) h
  rw [show (⟨#[49, 50, 51, 52, 53, 54, 55, 56, 57]⟩ : ByteArray).data.toList = [49, 50, 51, 52, 53, 54, 55, 56, 57] from rfl, s10] at this; exact this

set_option maxRecDepth 100000 in
set_option maxHeartbeats 4000000 in
theorem any (w : World) (hL : Sum.Laid w) :
    Calls Tryd.prog 10 #[] w fun e w' => e = .returned (.bool true) ∧ Below w.heap.size w w' := by
  have HL := Lib.hid hL
  clear hL
  go_enter Tryd.func10, Tryd.ntmps10
  go_wp2_with fail
  refine (q1 _).mono ?_
  rintro e w1 ⟨rfl, hB1⟩
  go_wp2_with fail
  refine (q2 _).mono ?_
  rintro e w2 ⟨rfl, hB2⟩
  go_wp2_with fail
  refine (q3 _).mono ?_
  rintro e w' ⟨rfl, rfl⟩
  go_wp2_with fail
  refine (q4 _).mono ?_
  rintro e w' ⟨rfl, rfl⟩
  go_wp2_with fail
  refine (q5 _).mono ?_
  rintro e w5 ⟨rfl, hB5⟩
  go_wp2_with fail
  refine (q6 _).mono ?_
  rintro e w6 ⟨rfl, hB6⟩
  go_wp2_with fail
  refine (q7 _).mono ?_
  rintro e w7 ⟨rfl, hB7⟩
  go_wp2_with fail
  refine (q8 _).mono ?_
  rintro e w8 ⟨rfl, hB8⟩
  go_wp2_with fail
  refine (q9 _).mono ?_
  rintro e w' ⟨rfl, rfl⟩
  have hB : Below w.heap.size w w8 := hB1.trans ((hB2.mono hB1.size).trans ((hB5.mono (Nat.le_trans hB1.size hB2.size)).trans ((hB6.mono (Nat.le_trans (Nat.le_trans hB1.size hB2.size) hB5.size)).trans ((hB7.mono (Nat.le_trans (Nat.le_trans (Nat.le_trans hB1.size hB2.size) hB5.size) hB6.size)).trans (hB8.mono (Nat.le_trans (Nat.le_trans (Nat.le_trans (Nat.le_trans hB1.size hB2.size) hB5.size) hB6.size) hB7.size))))))
  have HB := Lib.hid hB
  clear hB hB1 hB2 hB5 hB6 hB7 hB8
  go_wp2_with fail
  refine (q10 _ (HL.out.below HB.out)).mono ?_
  rintro e w' ⟨rfl, rfl⟩
  go_wp2
  go_ret
  exact ⟨rfl, HB.out⟩

end Go.Proofs.YtoiikkfhbpeemaaDoor.Sane
