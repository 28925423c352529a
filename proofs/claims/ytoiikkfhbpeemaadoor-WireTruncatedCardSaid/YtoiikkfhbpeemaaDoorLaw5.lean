/- WireTruncated: the walk. -/
import Derived.Test.YtoiikkfhbpeemaaDoorSane
import Derived.Test.YtoiikkfhbpeemaaDoorKit
import Derived.Test.YtoiikkfhbpeemaaDoorLeb2
import Derived.WalkSpells
namespace Go.Proofs.YtoiikkfhbpeemaaDoor.Law5
set_option linter.unusedVariables false
set_option linter.unusedSimpArgs false
open Go Go.RowKit Go.Proofs.YtoiikkfhbpeemaaDoor.PutInt Go.Proofs.YtoiikkfhbpeemaaDoor.IntW Go.Proofs.YtoiikkfhbpeemaaDoor.Str
open Go.Proofs.YtoiikkfhbpeemaaDoor.Leb
attribute [local go_sem] res resS resP Kit.min2_i Kit.min_2

theorem bs_extract (l : List UInt8) (k : Nat) : (bs l).extract 0 k = bs (l.take k) := by rw [str_of]; simp [bs_data]

theorem ext_all (A : ByteArray) : A.extract 0 A.size = A := by
  rw [← bs_eq (A.extract 0 A.size), Lib.extract_data, List.drop_zero, List.take_of_length_le (by simp), bs_eq]

theorem int_cut (n : Int) (h : InRange n) (k : Nat) (hk : k < (bs (leb (zig n))).size) (w : World) :
    Calls Tryd.prog 15 #[.string ((bs (leb (zig n))).extract 0 k), .int .i64 0] w fun e w' => e = .returned (.tuple #[.int .i64 0, .int .i64 0, .int .i64 10]) ∧ w = w' := by
  rw [bs_size] at hk
  have hl := zig_len h
  rw [bs_extract]
  have := IntW.any (bs ((leb (zig n)).take k)) 0 w (by rw [bs_size, List.length_take]; omega)
  rw [bs_data, trunc_int h hk] at this
  exact this

theorem str_cut (t : List UInt8) (h : t.length ≤ 65536) (k : Nat) (hk : k < (bs (putS t).1).size) (w : World) :
    Calls Tryd.prog 17 #[.string ((bs (putS t).1).extract 0 k), .int .i64 0] w fun e w' => e = .returned (.tuple #[.string ⟨#[]⟩, .int .i64 0, .int .i64 10]) ∧ Below w.heap.size w w' := by
  rw [putS_eq h] at hk ⊢
  rw [bs_size] at hk
  have hl : (leb (2 * t.length)).length ≤ 9 := by rw [← zig_nat]; exact zig_len (len_zig h)
  rw [bs_extract]
  have := str_any (bs ((leb (2 * t.length) ++ t).take k)) 0 w (by rw [bs_size, List.length_take, List.length_append]; omega)
  rw [bs_data, trunc_str h hk] at this
  exact this

theorem no_prefix {m n : Int} (hm : InRange m) (hn : InRange n) (hne : m ≠ n) (hle : (bs (leb (zig m))).size ≤ (bs (leb (zig n))).size) :
    (((bs (leb (zig n))).extract 0 (bs (leb (zig m))).size).toList == (bs (leb (zig m))).toList) = false := by
  rw [beq_eq_false_iff_ne, bs_extract, Lib.toList_data, Lib.toList_data, bs_data, bs_data, bs_size]
  intro he
  refine hne (zig_inj (leb_prefix (zig_len hm) (zig_len hn) (q := (leb (zig n)).drop (leb (zig m)).length) (r := []) ?_))
  conv => lhs; lhs; rw [← he]
  rw [List.take_append_drop]; simp

set_option maxRecDepth 100000 in
set_option maxHeartbeats 4000000 in
theorem walk (c d : Int) (t : ByteArray) (at_ : Int) (w : World) (hc : I64 c) (hd : I64 d) (ht : t.size ≤ 140737488351232) (ha : I64 at_) (hL : Sum.Laid w) :
    Calls Tryd.prog 7 #[.int .i64 c, .int .i64 d, .string t, .int .i64 at_] w fun e w' => e = .returned (.bool true) ∧ Below w.heap.size w w' := by
  have HL := Lib.hid hL
  have Hc := Lib.hid hc
  have Hd := Lib.hid hd
  have Ha := Lib.hid ha
  clear hL hc hd ha
  obtain ⟨m, hm1, hm2, hm3, hm4⟩ := Kit.cut_facts t 200
  rw [show ((200 : Nat) : Int) = 200 from rfl] at hm1
  clear hm4
  have hrc := nf_range c
  have hrd := nf_range d
  have N1 := Lib.hid (fun w => nf_any c w Hc.out)
  have N2 := Lib.hid (fun w => nf_any d w Hd.out)
  generalize nf c = x at hrc N1
  generalize nf d = y at hrd N2
  clear Hc Hd
  have P1 := fun w => PutInt.any x w
  have P2 := fun w => PutInt.any y w
  have I1 := int_cut x hrc
  have hzx := zig_len hrc
  have hzy := zig_len hrd
  have hpx := leb_pos (zig x)
  have hpy := leb_pos (zig y)
  have hNP := no_prefix hrc hrd
  have hSame : x = y → bs (leb (zig x)) = bs (leb (zig y)) := fun h => by rw [h]
  rw [← bs_size] at hzx hzy hpx hpy
  have ex : putL x = (leb (zig x), 0) := by rw [putL, if_pos hrc]
  have ey : putL y = (leb (zig y), 0) := by rw [putL, if_pos hrd]
  rw [ex] at P1
  rw [ey] at P2
  clear ex ey hrc hrd
  generalize bs (leb (zig x)) = A at P1 I1 hzx hpx hNP hSame
  generalize bs (leb (zig y)) = B at P2 hzy hpy hNP hSame
  have P1h := Lib.hid P1
  have P2h := Lib.hid P2
  have I1h := Lib.hid I1
  have NPh := Lib.hid hNP
  have SMh := Lib.hid hSame
  clear P1 P2 I1 hNP hSame
  go_enter Tryd.func7, Tryd.ntmps7
  go_wp2_with fail
  refine (Sane.any _ HL.out).mono ?_
  rintro e w1 ⟨rfl, hB1⟩
  have HB1 := Lib.hid hB1
  clear hB1
  go_wp2_with fail
  refine (N1.out _).mono ?_
  rintro e w2 ⟨rfl, hB2⟩
  have HB2 := Lib.hid (HB1.out.trans (hB2.mono HB1.out.size))
  clear hB2 HB1
  go_wp2_with fail
  refine (P1h.out _).mono ?_
  rintro e w3 ⟨rfl, hB3⟩
  have HB3 := Lib.hid (HB2.out.trans (hB3.mono HB2.out.size))
  clear hB3 HB2
  go_wp2_with fail
  refine (N2.out _).mono ?_
  rintro e w4 ⟨rfl, hB4⟩
  have HB4 := Lib.hid (HB3.out.trans (hB4.mono HB3.out.size))
  clear hB4 HB3
  go_wp2_with fail
  refine (P2h.out _).mono ?_
  rintro e w5 ⟨rfl, hB5⟩
  have HB5 := Lib.hid (HB4.out.trans (hB5.mono HB4.out.size))
  clear hB5 HB4
  go_wp2_with fail
  generalize t.extract 0 m = T at hm3
  clear hm1 hm2 ht
  have hT : T.data.toList.length ≤ 65536 := by simp; omega
  have Q1 := fun w => put_any T w (by omega)
  have Q2 := str_cut T.data.toList hT
  have e2 : (putS T.data.toList).2 = 0 := by rw [putS_eq hT]
  have hs1 : 0 < (bs (putS T.data.toList).1).size := by rw [putS_eq hT, bs_size, List.length_append]; have := leb_pos (2 * T.data.toList.length); omega
  have hs2 : (bs (putS T.data.toList).1).size ≤ 100000 := by
    rw [putS_eq hT, bs_size, List.length_append]
    have : (leb (2 * T.data.toList.length)).length ≤ 9 := by rw [← zig_nat]; exact zig_len (len_zig hT)
    omega
  simp only [resP, e2] at Q1
  clear e2 hT
  generalize bs (putS T.data.toList).1 = V at Q1 Q2 hs1 hs2
  have za : ((A.size : Int) == 0) = false := by rw [beq_eq_false_iff_ne]; omega
  have zv : ((V.size : Int) == 0) = false := by rw [beq_eq_false_iff_ne]; omega
  have zae : ¬ A = ByteArray.empty := by rintro rfl; simp at hpx
  have zve : ¬ V = ByteArray.empty := by rintro rfl; simp at hs1
  have Q1h := Lib.hid Q1
  have Q2h := Lib.hid Q2
  clear Q1 Q2
  refine (Q1h.out _).mono ?_
  rintro e w6 ⟨rfl, hB6⟩
  have HB6 := Lib.hid (HB5.out.trans (hB6.mono HB5.out.size))
  clear hB6 HB5
  go_wp2_with fail
  clear za zv zae zve
  refine (pick_any at_ _ _ Ha.out (by omega)).mono ?_
  rintro e w7 ⟨rfl, rfl⟩
  obtain ⟨k1, hk1⟩ : ∃ k : Nat, pk at_ % (A.size : Int) = k := ⟨(pk at_ % (A.size : Int)).toNat, by have := Int.emod_nonneg (pk at_) (b := (A.size : Int)) (by omega); omega⟩
  have hk1l : k1 < A.size := by have := Int.emod_lt_of_pos (pk at_) (b := (A.size : Int)) (by omega); omega
  rw [hk1]
  clear hk1
  go_wp2_with fail
  refine (I1h.out k1 hk1l _).mono ?_
  rintro e w7 ⟨rfl, rfl⟩
  go_wp2_with fail
  refine (pick_any at_ _ _ Ha.out (by omega)).mono ?_
  rintro e w7 ⟨rfl, rfl⟩
  obtain ⟨k2, hk2⟩ : ∃ k : Nat, pk at_ % (V.size : Int) = k := ⟨(pk at_ % (V.size : Int)).toNat, by have := Int.emod_nonneg (pk at_) (b := (V.size : Int)) (by omega); omega⟩
  have hk2l : k2 < V.size := by have := Int.emod_lt_of_pos (pk at_) (b := (V.size : Int)) (by omega); omega
  rw [hk2]
  clear hk2
  go_wp2_with fail
  refine (Q2h.out k2 hk2l _).mono ?_
  rintro e w7 ⟨rfl, hB7⟩
  have HB7 := Lib.hid (HB6.out.trans (hB7.mono HB6.out.size))
  clear hB7 HB6
  by_cases hxy : x = y
  · have hAB := SMh.out hxy
    subst hxy
    subst hAB
    have hex := ext_all A
    go_wp2_with fail
    refine (N1.out _).mono ?_
    rintro e w8 ⟨rfl, hB8⟩
    have HB8 := Lib.hid (HB7.out.trans (hB8.mono HB7.out.size))
    clear hB8 HB7
    go_wp2_with fail
    refine (N2.out _).mono ?_
    rintro e w9 ⟨rfl, hB9⟩
    have HB9 := Lib.hid (HB8.out.trans (hB9.mono HB8.out.size))
    clear hB9 HB8
    go_wp2
    go_ret
    exact ⟨rfl, HB9.out⟩
  · have hne : (x == y) = false := by rw [beq_eq_false_iff_ne]; exact hxy
    by_cases hle : A.size ≤ B.size
    · have hcmp := NPh.out hxy hle
      clear hxy
      go_wp2_with fail
      refine (N1.out _).mono ?_
      rintro e w8 ⟨rfl, hB8⟩
      have HB8 := Lib.hid (HB7.out.trans (hB8.mono HB7.out.size))
      clear hB8 HB7
      go_wp2_with fail
      refine (N2.out _).mono ?_
      rintro e w9 ⟨rfl, hB9⟩
      have HB9 := Lib.hid (HB8.out.trans (hB9.mono HB8.out.size))
      clear hB9 HB8
      go_wp2
      go_ret
      exact ⟨rfl, HB9.out⟩
    · clear hxy
      go_wp2_with fail
      refine (N1.out _).mono ?_
      rintro e w8 ⟨rfl, hB8⟩
      have HB8 := Lib.hid (HB7.out.trans (hB8.mono HB7.out.size))
      clear hB8 HB7
      go_wp2_with fail
      refine (N2.out _).mono ?_
      rintro e w9 ⟨rfl, hB9⟩
      have HB9 := Lib.hid (HB8.out.trans (hB9.mono HB8.out.size))
      clear hB9 HB8
      go_wp2
      go_ret
      exact ⟨rfl, HB9.out⟩

end Go.Proofs.YtoiikkfhbpeemaaDoor.Law5
