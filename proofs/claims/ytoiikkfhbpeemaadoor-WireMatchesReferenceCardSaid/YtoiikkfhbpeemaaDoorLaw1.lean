/- WireMatchesReference: the walk. -/
import Derived.Test.YtoiikkfhbpeemaaDoorSane
import Derived.Test.YtoiikkfhbpeemaaDoorKit
namespace Go.Proofs.YtoiikkfhbpeemaaDoor.Law1
set_option linter.unusedVariables false
set_option linter.unusedSimpArgs false
open Go Go.RowKit Go.Proofs.YtoiikkfhbpeemaaDoor.PutInt Go.Proofs.YtoiikkfhbpeemaaDoor.IntW Go.Proofs.YtoiikkfhbpeemaaDoor.Str
open Go.Proofs.YtoiikkfhbpeemaaDoor.Leb
attribute [local go_sem] res resS resP Kit.min2_i Kit.min_2

set_option maxRecDepth 100000 in
set_option maxHeartbeats 4000000 in
theorem walk (n : Int) (s : ByteArray) (at_ : Int) (w : World) (hn : I64 n) (hs : s.size ≤ 140737488351232) (ha : I64 at_) (hL : Sum.Laid w) :
    Calls Tryd.prog 3 #[.int .i64 n, .string s, .int .i64 at_] w fun e w' => e = .returned (.bool true) ∧ Below w.heap.size w w' := by
  have HL := Lib.hid hL
  clear hL
  have Hn := Lib.hid hn
  have Ha := Lib.hid ha
  clear hn ha
  obtain ⟨m, hm1, hm2, hm3, hm4⟩ := Kit.cut_facts s 300
  clear hm4
  rw [show ((300 : Nat) : Int) = 300 from rfl] at hm1
  go_enter Tryd.func3, Tryd.ntmps3
  go_wp2_with fail
  refine (Sane.any _ HL.out).mono ?_
  rintro e w1 ⟨rfl, hB1⟩
  have HB1 := Lib.hid hB1
  clear hB1
  go_wp2_with fail
  generalize s.extract 0 m = f at hm3
  clear hm1 hm2 hs
  refine (nf_any n _ Hn.out).mono ?_
  rintro e w2 ⟨rfl, hB2⟩
  have HB2 := Lib.hid (HB1.out.trans (hB2.mono HB1.out.size))
  clear hB2 HB1
  go_wp2_with fail
  generalize hW0 : w2.alloc (.cells #[.int .i64 n, .int .i64 (nf n)] 3) = W0
  have hc : ∀ i, i < 2 → ∃ x, W0.cell? ⟨w2.heap.size, i, none⟩ = some (.int .i64 x) := fun i hi => by
    rw [← hW0]
    have h2 := World.alloc_heap_new w2 (.cells #[.int .i64 n, .int .i64 (nf n)] 3)
    match i, hi with
    | 0, _ => exact ⟨n, by unfold World.cell?; rw [h2]; rfl⟩
    | 1, _ => exact ⟨nf n, by unfold World.cell?; rw [h2]; rfl⟩
  have hlt : w2.heap.size < W0.heap.size := by rw [← hW0]; simp
  have HBW := Lib.hid (show Below w.heap.size w W0 by rw [← hW0]; exact HB2.out.alloc HB2.out.size _)
  have Hc := Lib.hid hc
  have Hlt := Lib.hid hlt
  clear hc hW0 HB2 hlt
  go_loopw [44] (fun t wr => ∃ i : Nat, i ≤ 2 ∧ t = .int .i64 i ∧ Hid (Below W0.heap.size W0 wr)) (fun t _ => 2 - (intOf t).toNat)
  case atStart => exact ⟨0, by omega, rfl, Below.refl _ _⟩
  case round =>
    obtain ⟨i, hi, rfl, HBr⟩ := hrel
    by_cases hlt : i < 2
    · obtain ⟨x, hx⟩ := Hc.out i hlt
      have hcell := (HBr.out.cell (p := ⟨w2.heap.size, i, none⟩) Hlt.out).trans hx
      clear hx
      have C1 := fun w => PutInt.any x w
      have C2 := fun w => RefPut.any x w
      generalize putL x = pv at C1 C2
      obtain ⟨p1, p2⟩ := pv
      have E1 := Lib.hid C1
      have E2 := Lib.hid C2
      clear C1 C2
      go_wp2_with fail
      refine (E1.out _).mono ?_
      rintro e w3 ⟨rfl, hB3⟩
      have HB3 := Lib.hid (HBr.out.trans (hB3.mono HBr.out.size))
      clear hB3 hcell HBr
      go_wp2_with fail
      refine (E2.out _).mono ?_
      rintro e w4 ⟨rfl, hB4⟩
      have HB4 := Lib.hid (HB3.out.trans (hB4.mono HB3.out.size))
      clear hB4 HB3
      go_wp2
      go_roundw
      case rel => exact ⟨i + 1, by omega, by go_num, HB4.out⟩
      case measure => simp [intOf]; omega
    · obtain rfl : i = 2 := by omega
      clear hi hlt
      have HBa := Lib.hid (HBW.out.trans (HBr.out.mono HBW.out.size))
      clear HBr HBW Hc Hlt
      go_wp2_with fail
      refine (pick_any at_ _ _ Ha.out (by omega)).mono ?_
      rintro e w3 ⟨rfl, rfl⟩
      generalize pk at_ % ((f.size : Int) + 2) = q
      go_wp2_with fail
      generalize hW1 : wr.alloc (.cells #[.int .i64 at_, .int .i64 q] 3) = W1
      have hc : ∀ i, i < 2 → ∃ x, W1.cell? ⟨wr.heap.size, i, none⟩ = some (.int .i64 x) := fun i hi => by
        rw [← hW1]
        have h2 := World.alloc_heap_new wr (.cells #[.int .i64 at_, .int .i64 q] 3)
        match i, hi with
        | 0, _ => exact ⟨at_, by unfold World.cell?; rw [h2]; rfl⟩
        | 1, _ => exact ⟨q, by unfold World.cell?; rw [h2]; rfl⟩
      have hlt : wr.heap.size < W1.heap.size := by rw [← hW1]; simp
      have HBW := Lib.hid (show Below w.heap.size w W1 by rw [← hW1]; exact HBa.out.alloc HBa.out.size _)
      have Hc := Lib.hid hc
      have Hlt := Lib.hid hlt
      clear hc hW1 HBa hlt
      obtain ⟨B, hB⟩ : ∃ B, B = wr.heap.size := ⟨_, rfl⟩
      rw [← hB] at Hc Hlt ⊢
      clear hB
      go_loopw [75] (fun t wx => ∃ i : Nat, i ≤ 2 ∧ t = .int .i64 i ∧ Hid (Below W1.heap.size W1 wx)) (fun t _ => 2 - (intOf t).toNat)
      case atStart => exact ⟨0, by omega, rfl, Below.refl _ _⟩
      case round =>
        obtain ⟨i, hi, rfl, HBr⟩ := hrel
        by_cases hlt : i < 2
        · obtain ⟨x, hx⟩ := Hc.out i hlt
          have hcell := (HBr.out.cell (p := ⟨B, i, none⟩) Hlt.out).trans hx
          clear hx
          have C1 := fun w => IntW.any f x w (by omega)
          have C2 := fun w => RefInt.any f x w (by omega)
          have C3 := fun w => str_any f x w (by omega)
          have C4 := fun w => rstr_any f x w (by omega)
          generalize intL f.data.toList x = iv at C1 C2
          generalize strL f.data.toList x = sv at C3 C4
          obtain ⟨i1, i2, i3⟩ := iv
          obtain ⟨s1, s2, s3⟩ := sv
          have D1 := Lib.hid C1
          have D2 := Lib.hid C2
          have D3 := Lib.hid C3
          have D4 := Lib.hid C4
          clear C1 C2 C3 C4
          go_wp2_with fail
          refine (D1.out _).mono ?_
          rintro e w3 ⟨rfl, rfl⟩
          clear hcell
          go_wp2_with fail
          refine (D2.out _).mono ?_
          rintro e w4 ⟨rfl, hB4⟩
          have HB4 := Lib.hid (HBr.out.trans (hB4.mono HBr.out.size))
          clear hB4 HBr
          go_wp2_with fail
          refine (D3.out _).mono ?_
          rintro e w5 ⟨rfl, hB5⟩
          have HB5 := Lib.hid (HB4.out.trans (hB5.mono HB4.out.size))
          clear hB5 HB4
          go_wp2_with fail
          refine (D4.out _).mono ?_
          rintro e w6 ⟨rfl, hB6⟩
          have HB6 := Lib.hid (HB5.out.trans (hB6.mono HB5.out.size))
          clear hB6 HB5
          go_wp2
          go_roundw
          case rel => exact ⟨i + 1, by omega, by go_num, HB6.out⟩
          case measure => simp [intOf]; omega
        · obtain rfl : i = 2 := by omega
          clear hi hlt
          have HBa := Lib.hid (HBW.out.trans (HBr.out.mono HBW.out.size))
          clear HBr HBW Hc Hlt
          have C1 := fun w => put_any f w (by omega)
          have C2 := fun w => rput_any f w (by omega)
          generalize putS f.data.toList = pv at C1 C2
          obtain ⟨p1, p2⟩ := pv
          have E1 := Lib.hid C1
          have E2 := Lib.hid C2
          clear C1 C2
          go_wp2_with fail
          refine (E1.out _).mono ?_
          rintro e w5 ⟨rfl, hB5⟩
          have HB5 := Lib.hid (HBa.out.trans (hB5.mono HBa.out.size))
          clear hB5 HBa
          go_wp2_with fail
          refine (E2.out _).mono ?_
          rintro e w6 ⟨rfl, hB6⟩
          have HB6 := Lib.hid (HB5.out.trans (hB6.mono HB5.out.size))
          clear hB6 HB5
          go_wp2_with fail
          refine (Sum.sum_any f _ (by unfold maxLen; omega) (HL.out.below HB6.out)).mono ?_
          rintro e w7 ⟨rfl, rfl⟩
          go_wp2_with fail
          refine (RefPut.sum_any f _ (by unfold maxLen; omega)).mono ?_
          rintro e w7 ⟨rfl, rfl⟩
          go_wp2
          go_ret
          exact ⟨rfl, HB6.out⟩

end Go.Proofs.YtoiikkfhbpeemaaDoor.Law1
