/- WireUnique: the walk. -/
import Derived.Test.YtoiikkfhbpeemaaDoorSane
import Derived.Test.YtoiikkfhbpeemaaDoorKit
import Derived.Test.YtoiikkfhbpeemaaDoorLeb2
import Derived.WalkSpells
namespace Go.Proofs.YtoiikkfhbpeemaaDoor.Law3
set_option linter.unusedVariables false
set_option linter.unusedSimpArgs false
open Go Go.RowKit Go.Proofs.YtoiikkfhbpeemaaDoor.PutInt Go.Proofs.YtoiikkfhbpeemaaDoor.IntW Go.Proofs.YtoiikkfhbpeemaaDoor.Str
open Go.Proofs.YtoiikkfhbpeemaaDoor.Leb
attribute [local go_sem] res resS resP Kit.min2_i Kit.min_2

theorem conv_one {x : Int} (b : Nat) (w : World) (h : w.cell? ⟨b, 0, none⟩ = some (.int .u8 x)) : (convert 38 9 (.slice (some ⟨b, 0, none⟩) 1 1)).run Tryd.prog w = .ok (.string (bs [UInt8.ofNat x.toNat])) w := by
  have := run_convert_bytes_arg (P := Tryd.prog) w 38 5 Tryd.underlying38 Tryd.underlying5 b 0 1 1 [x] rfl (fun i hi => by
      have : i = 0 := by omega
      subst this; exact h) 9 Tryd.underlying9
  rw [this, ← bs_eq (strOfNums [x]), strOfNums_data]; rfl

theorem z_int (w : World) : Calls Tryd.prog 12 #[.int .i64 0] w fun e w' => (∃ u : ByteArray, e = .returned (.tuple #[.string u, .int .i64 0])) ∧ Below w.heap.size w w' := by
  have h := PutInt.any 0 w
  rw [putL, if_pos (by decide)] at h
  exact h.mono fun e w' h => ⟨⟨_, h.1⟩, h.2⟩
theorem z_str (w : World) : Calls Tryd.prog 19 #[.string ⟨#[]⟩] w fun e w' => (∃ u : ByteArray, e = .returned (.tuple #[.string u, .int .i64 0])) ∧ Below w.heap.size w w' := by
  have h := put_any ⟨#[]⟩ w (by decide)
  rw [show (⟨#[]⟩ : ByteArray).data.toList = [] from rfl, putS_eq (by decide)] at h
  exact h.mono fun e w' h => ⟨⟨_, h.1⟩, h.2⟩

set_option maxRecDepth 100000 in
set_option maxHeartbeats 4000000 in
theorem walk (s : ByteArray) (at_ first : Int) (w : World) (hs : s.size ≤ 140737488351232) (ha : I64 at_) (hf : 0 ≤ first ∧ first ≤ 255) (hL : Sum.Laid w) :
    Calls Tryd.prog 5 #[.string s, .int .i64 at_, .int .u8 first] w fun e w' => e = .returned (.bool true) ∧ Below w.heap.size w w' := by
  have HL := Lib.hid hL
  have Ha := Lib.hid ha
  clear hL ha
  obtain ⟨m, hm1, hm2, hm3, hm4⟩ := Kit.cut_facts s 300
  rw [show ((300 : Nat) : Int) = 300 from rfl] at hm1
  clear hm4
  go_enter Tryd.func5, Tryd.ntmps5
  go_wp2_with fail
  refine (Sane.any _ HL.out).mono ?_
  rintro e w1 ⟨rfl, hB1⟩
  have HB1 := Lib.hid hB1
  clear hB1
  have hsum : (bs [UInt8.ofNat first.toNat]).size + (s.extract 0 m).size ≤ 9223372036854775807 := by rw [bs_size]; simp only [List.length_cons, List.length_nil]; omega
  have hcv := conv_one (x := first) w1.heap.size ((w1.alloc (.cells #[.int .u8 first] 5)).drew) (by rw [World.cell?_drew]; unfold World.cell?; rw [World.alloc_heap_new]; rfl)
  go_wp2_with fail
  go_region
  generalize hT : bs [UInt8.ofNat first.toNat] ++ s.extract 0 m = t
  have ht1 : 1 ≤ t.size := by rw [← hT, ByteArray.size_append, bs_size]; simp
  have ht2 : t.size ≤ 301 := by rw [← hT, ByteArray.size_append, bs_size]; simp only [List.length_cons, List.length_nil]; omega
  clear hT hcv hsum hm1 hm2 hm3 hs hf
  generalize hW2 : (w1.alloc (.cells #[.int .u8 first] 5)).drew = w2
  have HB2 := Lib.hid (show Below w.heap.size w w2 by rw [← hW2]; exact (HB1.out.alloc HB1.out.size _).drew)
  clear hW2 HB1
  go_wp2_with fail
  refine (pick_any at_ _ _ Ha.out (by omega)).mono ?_
  rintro e w3 ⟨rfl, rfl⟩
  obtain ⟨q, hq⟩ : ∃ q : Nat, pk at_ % ((t.size : Int) + 1) = q := ⟨(pk at_ % ((t.size : Int) + 1)).toNat, by have := Int.emod_nonneg (pk at_) (b := (t.size : Int) + 1) (by omega); omega⟩
  have hqs : q ≤ t.size := by have := Int.emod_lt_of_pos (pk at_) (b := (t.size : Int) + 1) (by omega); omega
  rw [hq]
  clear hq
  go_wp2_with fail
  generalize hW3 : w2.alloc (.cells #[.int .i64 0, .int .i64 (q : Int)] 3) = W0
  have hc : ∀ i, i < 2 → ∃ x : Nat, W0.cell? ⟨w2.heap.size, i, none⟩ = some (.int .i64 (x : Int)) ∧ x ≤ t.size := fun i hi => by
    rw [← hW3]
    have h2 := World.alloc_heap_new w2 (.cells #[.int .i64 0, .int .i64 (q : Int)] 3)
    match i, hi with
    | 0, _ => exact ⟨0, by unfold World.cell?; rw [h2]; rfl, by omega⟩
    | 1, _ => exact ⟨q, by unfold World.cell?; rw [h2]; rfl, hqs⟩
  have hlt : w2.heap.size < W0.heap.size := by rw [← hW3]; simp
  have HBW := Lib.hid (show Below w.heap.size w W0 by rw [← hW3]; exact HB2.out.alloc HB2.out.size _)
  have Hc := Lib.hid hc
  have Hlt := Lib.hid hlt
  clear hc hW3 HB2 hlt hqs
  go_loopw [38] (fun t wr => ∃ i : Nat, i ≤ 2 ∧ t = .int .i64 i ∧ Hid (Below W0.heap.size W0 wr)) (fun t _ => 2 - (intOf t).toNat)
  case atStart => exact ⟨0, by omega, rfl, Below.refl _ _⟩
  case round =>
    obtain ⟨i, hi, rfl, HBr⟩ := hrel
    by_cases hlt : i < 2
    · obtain ⟨x, hx, hxs⟩ := Hc.out i hlt
      have hcell := (HBr.out.cell (p := ⟨w2.heap.size, i, none⟩) Hlt.out).trans hx
      clear hx
      have hlen : t.data.toList.length = t.size := by simp
      rcases intL_cases (l := t.data.toList) (k := x) (by simpa using hxs) with ⟨n, m, hn, hr, hm, hml, hmt⟩ | hn
      · have F1 : ∀ w, Calls Tryd.prog 15 #[.string t, .int .i64 (x : Int)] w fun e w' => e = .returned (.tuple #[.int .i64 n, .int .i64 ((x : Int) + (m : Nat)), .int .i64 0]) ∧ w = w' := fun w => by
          have := IntW.any t x w (by omega)
          rw [hn] at this; exact this
        have F2 : ∀ w, Calls Tryd.prog 12 #[.int .i64 n] w fun e w' => e = .returned (.tuple #[.string (bs (leb (zig n))), .int .i64 0]) ∧ Below w.heap.size w w' := fun w => by
          have := PutInt.any n w
          rw [putL, if_pos hr] at this; exact this
        have hex : t.extract x (x + m) = bs (leb (zig n)) := by rw [str_of, Nat.add_sub_cancel_left, hmt]
        have hml2 : x + m ≤ t.size := by simpa using hml
        clear hn hr hm hml hmt hlen
        generalize bs (leb (zig n)) = U at F2 hex
        have F1h := Lib.hid F1
        have F2h := Lib.hid F2
        clear F1 F2
        go_wp2_with fail
        refine (F1h.out _).mono ?_
        rintro e w' ⟨rfl, rfl⟩
        clear hcell
        go_wp2_with fail
        refine (F2h.out _).mono ?_
        rintro e w5 ⟨rfl, hB5⟩
        have HB5 := Lib.hid (HBr.out.trans (hB5.mono HBr.out.size))
        clear hB5 HBr
        go_wp2_with fail
        clear hex hml2
        rcases strL_cases (l := t.data.toList) (k := x) (by simpa using hxs) with ⟨v, m2, hv, hvl, hvm, hvt⟩ | hv
        · have F3 : ∀ w, Calls Tryd.prog 17 #[.string t, .int .i64 (x : Int)] w fun e w' => e = .returned (.tuple #[.string (bs v), .int .i64 ((x : Int) + (m2 : Nat)), .int .i64 0]) ∧ Below w.heap.size w w' := fun w => by
            have := str_any t x w (by omega)
            rw [hv] at this; exact this
          have F4 : ∀ w, Calls Tryd.prog 19 #[.string (bs v)] w fun e w' => e = .returned (.tuple #[.string (bs (leb (2 * v.length) ++ v)), .int .i64 0]) ∧ Below w.heap.size w w' := fun w => by
            have := put_any (bs v) w (by rw [bs_size]; omega)
            rw [bs_data, putS_eq hvl] at this; exact this
          have hex2 : t.extract x (x + m2) = bs (leb (2 * v.length) ++ v) := by rw [str_of, Nat.add_sub_cancel_left, hvt]
          have hvm2 : x + m2 ≤ t.size := by simpa using hvm
          clear hv hvl hvm hvt
          generalize bs (leb (2 * v.length) ++ v) = V2 at F4 hex2
          generalize bs v = V at F3 F4
          have F3h := Lib.hid F3
          have F4h := Lib.hid F4
          clear F3 F4
          go_wp2_with fail
          refine (F3h.out _).mono ?_
          rintro e w6 ⟨rfl, hB6⟩
          have HB6 := Lib.hid (HB5.out.trans (hB6.mono HB5.out.size))
          clear hB6
          go_wp2_with fail
          refine (F4h.out _).mono ?_
          rintro e w7 ⟨rfl, hB7⟩
          have HB7 := Lib.hid (HB6.out.trans (hB7.mono HB6.out.size))
          clear hB7 HB6
          go_wp2
          go_roundw
          case rel => exact ⟨i + 1, by omega, by go_num, HB7.out⟩
          case measure => simp [intOf]; omega
        · have F3 : ∀ w, Calls Tryd.prog 17 #[.string t, .int .i64 (x : Int)] w fun e w' => e = .returned (.tuple #[.string ⟨#[]⟩, .int .i64 0, .int .i64 10]) ∧ Below w.heap.size w w' := fun w => by
            have := str_any t x w (by omega)
            rw [hv] at this; exact this
          have F4 := z_str
          clear hv
          have F3h := Lib.hid F3
          have F4h := Lib.hid F4
          clear F3 F4
          go_wp2_with fail
          refine (F3h.out _).mono ?_
          rintro e w6 ⟨rfl, hB6⟩
          have HB6 := Lib.hid (HB5.out.trans (hB6.mono HB5.out.size))
          clear hB6
          go_wp2_with fail
          refine (F4h.out _).mono ?_
          rintro e w7 ⟨⟨u, rfl⟩, hB7⟩
          have HB7 := Lib.hid (HB6.out.trans (hB7.mono HB6.out.size))
          clear hB7 HB6
          go_wp2
          go_roundw
          case rel => exact ⟨i + 1, by omega, by go_num, HB7.out⟩
          case measure => simp [intOf]; omega
      · have F1 : ∀ w, Calls Tryd.prog 15 #[.string t, .int .i64 (x : Int)] w fun e w' => e = .returned (.tuple #[.int .i64 0, .int .i64 0, .int .i64 10]) ∧ w = w' := fun w => by
          have := IntW.any t x w (by omega)
          rw [hn] at this; exact this
        have F2 := z_int
        clear hn hlen
        have F1h := Lib.hid F1
        have F2h := Lib.hid F2
        clear F1 F2
        go_wp2_with fail
        refine (F1h.out _).mono ?_
        rintro e w' ⟨rfl, rfl⟩
        clear hcell
        go_wp2_with fail
        refine (F2h.out _).mono ?_
        rintro e w5 ⟨⟨u0, rfl⟩, hB5⟩
        have HB5 := Lib.hid (HBr.out.trans (hB5.mono HBr.out.size))
        clear hB5 HBr
        go_wp2_with fail
        rcases strL_cases (l := t.data.toList) (k := x) (by simpa using hxs) with ⟨v, m2, hv, hvl, hvm, hvt⟩ | hv
        · have F3 : ∀ w, Calls Tryd.prog 17 #[.string t, .int .i64 (x : Int)] w fun e w' => e = .returned (.tuple #[.string (bs v), .int .i64 ((x : Int) + (m2 : Nat)), .int .i64 0]) ∧ Below w.heap.size w w' := fun w => by
            have := str_any t x w (by omega)
            rw [hv] at this; exact this
          have F4 : ∀ w, Calls Tryd.prog 19 #[.string (bs v)] w fun e w' => e = .returned (.tuple #[.string (bs (leb (2 * v.length) ++ v)), .int .i64 0]) ∧ Below w.heap.size w w' := fun w => by
            have := put_any (bs v) w (by rw [bs_size]; omega)
            rw [bs_data, putS_eq hvl] at this; exact this
          have hex2 : t.extract x (x + m2) = bs (leb (2 * v.length) ++ v) := by rw [str_of, Nat.add_sub_cancel_left, hvt]
          have hvm2 : x + m2 ≤ t.size := by simpa using hvm
          clear hv hvl hvm hvt
          generalize bs (leb (2 * v.length) ++ v) = V2 at F4 hex2
          generalize bs v = V at F3 F4
          have F3h := Lib.hid F3
          have F4h := Lib.hid F4
          clear F3 F4
          go_wp2_with fail
          refine (F3h.out _).mono ?_
          rintro e w6 ⟨rfl, hB6⟩
          have HB6 := Lib.hid (HB5.out.trans (hB6.mono HB5.out.size))
          clear hB6
          go_wp2_with fail
          refine (F4h.out _).mono ?_
          rintro e w7 ⟨rfl, hB7⟩
          have HB7 := Lib.hid (HB6.out.trans (hB7.mono HB6.out.size))
          clear hB7 HB6
          go_wp2
          go_roundw
          case rel => exact ⟨i + 1, by omega, by go_num, HB7.out⟩
          case measure => simp [intOf]; omega
        · have F3 : ∀ w, Calls Tryd.prog 17 #[.string t, .int .i64 (x : Int)] w fun e w' => e = .returned (.tuple #[.string ⟨#[]⟩, .int .i64 0, .int .i64 10]) ∧ Below w.heap.size w w' := fun w => by
            have := str_any t x w (by omega)
            rw [hv] at this; exact this
          have F4 := z_str
          clear hv
          have F3h := Lib.hid F3
          have F4h := Lib.hid F4
          clear F3 F4
          go_wp2_with fail
          refine (F3h.out _).mono ?_
          rintro e w6 ⟨rfl, hB6⟩
          have HB6 := Lib.hid (HB5.out.trans (hB6.mono HB5.out.size))
          clear hB6
          go_wp2_with fail
          refine (F4h.out _).mono ?_
          rintro e w7 ⟨⟨u, rfl⟩, hB7⟩
          have HB7 := Lib.hid (HB6.out.trans (hB7.mono HB6.out.size))
          clear hB7 HB6
          go_wp2
          go_roundw
          case rel => exact ⟨i + 1, by omega, by go_num, HB7.out⟩
          case measure => simp [intOf]; omega
    · obtain rfl : i = 2 := by omega
      clear hi hlt
      go_wp2
      go_ret
      exact ⟨rfl, HBW.out.trans (HBr.out.mono HBW.out.size)⟩

end Go.Proofs.YtoiikkfhbpeemaaDoor.Law3
