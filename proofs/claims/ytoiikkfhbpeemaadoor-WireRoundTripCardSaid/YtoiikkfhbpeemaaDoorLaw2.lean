/- WireRoundTrip: the walk. -/
import Derived.Test.YtoiikkfhbpeemaaDoorSane
import Derived.Test.YtoiikkfhbpeemaaDoorKit
import Derived.Test.YtoiikkfhbpeemaaDoorLeb2
import Derived.Test.YtoiikkfhbpeemaaDoorOpen
namespace Go.Proofs.YtoiikkfhbpeemaaDoor.Law2
set_option linter.unusedVariables false
set_option linter.unusedSimpArgs false
open Go Go.RowKit Go.Proofs.YtoiikkfhbpeemaaDoor.PutInt Go.Proofs.YtoiikkfhbpeemaaDoor.IntW Go.Proofs.YtoiikkfhbpeemaaDoor.Str
open Go.Proofs.YtoiikkfhbpeemaaDoor.Leb
attribute [local go_sem] res resS resP Kit.min2_i Kit.min_2

theorem data_len (s : ByteArray) : s.data.toList.length = s.size := by simp

theorem int_emb (P Q : ByteArray) (n : Int) (h : InRange n) (hP : P.size ≤ 200) (hQ : Q.size ≤ 200) (w : World) :
    Calls Tryd.prog 15 #[.string (P ++ bs (leb (zig n)) ++ Q), .int .i64 P.size] w fun e w' => e = .returned (.tuple #[.int .i64 n, .int .i64 ((P.size : Int) + ((bs (leb (zig n))).size : Nat)), .int .i64 0]) ∧ w = w' := by
  have hl := zig_len h
  have := IntW.any (P ++ bs (leb (zig n)) ++ Q) P.size w (by rw [ByteArray.size_append, ByteArray.size_append, bs_size]; omega)
  rw [ByteArray.data_append, ByteArray.data_append, Array.toList_append, Array.toList_append, bs_data, ← data_len P, rt_int h] at this
  rw [bs_size, ← data_len P]
  exact this

theorem str_emb (P Q T : ByteArray) (hP : P.size ≤ 200) (hQ : Q.size ≤ 200) (hT : T.size ≤ 200) (w : World) :
    Calls Tryd.prog 17 #[.string (P ++ bs (putS T.data.toList).1 ++ Q), .int .i64 P.size] w fun e w' => e = .returned (.tuple #[.string T, .int .i64 ((P.size : Int) + ((bs (putS T.data.toList).1).size : Nat)), .int .i64 0]) ∧ Below w.heap.size w w' := by
  have hT2 : T.data.toList.length ≤ 65536 := by rw [data_len]; omega
  rw [putS_eq hT2]
  have hl : (leb (2 * T.data.toList.length)).length ≤ 9 := by rw [← zig_nat]; exact zig_len (len_zig hT2)
  have := str_any (P ++ bs (leb (2 * T.data.toList.length) ++ T.data.toList) ++ Q) P.size w (by rw [ByteArray.size_append, ByteArray.size_append, bs_size, List.length_append, data_len]; rw [data_len] at hl; omega)
  rw [ByteArray.data_append, ByteArray.data_append, Array.toList_append, Array.toList_append, bs_data, ← data_len P, rt_str hT2] at this
  simp only
  rw [bs_size, ← data_len P]
  have e : resS (T.data.toList, (P.data.toList.length : Int) + ((leb (2 * T.data.toList.length) ++ T.data.toList).length : Nat), 0) = .tuple #[.string T, .int .i64 ((P.data.toList.length : Int) + ((leb (2 * T.data.toList.length) ++ T.data.toList).length : Nat)), .int .i64 0] := by
    unfold resS; rw [bs_eq]
  rw [e] at this
  exact this

set_option maxRecDepth 100000 in
set_option maxHeartbeats 4000000 in
theorem walk (c : Int) (t p q : ByteArray) (w : World) (hc : I64 c) (ht : t.size ≤ 140737488351232) (hp : p.size ≤ 140737488351232) (hq : q.size ≤ 140737488351232) (hL : Sum.Laid w) :
    Calls Tryd.prog 4 #[.int .i64 c, .string t, .agg #[.string p, .string q]] w fun e w' => e = .returned (.bool true) ∧ Below w.heap.size w w' := by
  have HL := Lib.hid hL
  clear hL
  have Hc := Lib.hid hc
  clear hc
  obtain ⟨m1, hm1, hm2, hm3, hm4⟩ := Kit.cut_facts p 200
  obtain ⟨m4, hm5, hm6, hm7, hm8⟩ := Kit.cut_facts q 200
  obtain ⟨m9, hm9, hm10, hm11, hm12⟩ := Kit.cut_facts t 200
  rw [show ((200 : Nat) : Int) = 200 from rfl] at hm1 hm5 hm9
  clear hm4 hm8 hm12
  go_enter Tryd.func4, Tryd.ntmps4
  go_wp2_with fail
  generalize hW0 : w.alloc (.cells #[.string p, .string q] 36) = W0
  have k0 : W0.cell? ⟨w.heap.size, 0, none⟩ = some (.string p) := by rw [← hW0]; unfold World.cell?; rw [World.alloc_heap_new]; rfl
  have k1 : W0.cell? ⟨w.heap.size, 1, none⟩ = some (.string q) := by rw [← hW0]; unfold World.cell?; rw [World.alloc_heap_new]; rfl
  have hlt : w.heap.size < W0.heap.size := by rw [← hW0]; simp
  have HBW := Lib.hid (show Below w.heap.size w W0 by rw [← hW0]; exact (Below.refl _ _).alloc (Nat.le_refl _) _)
  have HLW := Lib.hid (HL.out.below HBW.out)
  clear hW0 HL
  refine (Sane.any _ HLW.out).mono ?_
  rintro e w1 ⟨rfl, hB1⟩
  have HB1 := Lib.hid hB1
  clear hB1
  go_wp2_with fail
  refine (nf_any c _ Hc.out).mono ?_
  rintro e w2 ⟨rfl, hB2⟩
  have HB2 := Lib.hid (HB1.out.trans (hB2.mono HB1.out.size))
  have c0 := (HB2.out.cell (p := ⟨w.heap.size, 0, none⟩) hlt).trans k0
  have c1 := (HB2.out.cell (p := ⟨w.heap.size, 1, none⟩) hlt).trans k1
  clear hB2 HB1 k0 k1
  go_wp2_with fail
  clear c0 c1 hm1 hm5 hm9 hm2 hm6 hm10
  generalize p.extract 0 m1 = P at hm3
  generalize q.extract 0 m4 = Q at hm7
  generalize t.extract 0 m9 = T at hm11
  have hr := nf_range c
  have C1 := fun w => PutInt.any (nf c) w
  have C2 := fun w => put_any T w (by omega)
  have C3 := int_emb P Q (nf c) hr hm3 hm7
  have C4 := str_emb P Q T hm3 hm7 hm11
  have e1 : putL (nf c) = (leb (zig (nf c)), 0) := by rw [putL, if_pos hr]
  have hl1 := zig_len hr
  rw [e1] at C1
  have hT2 : T.data.toList.length ≤ 65536 := by rw [data_len]; omega
  have hl2 : (leb (2 * T.data.toList.length)).length ≤ 9 := by rw [← zig_nat]; exact zig_len (len_zig hT2)
  have e2 : (putS T.data.toList).2 = 0 := by rw [putS_eq hT2]
  have hl3 : (bs (putS T.data.toList).1).size ≤ 209 := by rw [putS_eq hT2, bs_size, List.length_append, data_len]; rw [data_len] at hl2; omega
  rw [← bs_size] at hl1
  simp only [resP, e2] at C2
  clear e1 e2 hl2 hT2 hr
  generalize bs (leb (zig (nf c))) = A at C1 C3 hl1
  generalize bs (putS T.data.toList).1 = B at C2 C4 hl3
  generalize nf c = n at C1 C3
  have D1 := Lib.hid C1
  have D2 := Lib.hid C2
  have D3 := Lib.hid C3
  have D4 := Lib.hid C4
  clear C1 C2 C3 C4
  have hPA : P.size + A.size ≤ 9223372036854775807 := by omega
  have hPAQ : P.size + A.size + Q.size ≤ 9223372036854775807 := by omega
  have hPB : P.size + B.size ≤ 9223372036854775807 := by omega
  have hPBQ : P.size + B.size + Q.size ≤ 9223372036854775807 := by omega
  go_wp2_with fail
  refine (D1.out _).mono ?_
  rintro e w3 ⟨rfl, hB3⟩
  have HB3 := Lib.hid (HB2.out.trans (hB3.mono HB2.out.size))
  clear hB3 HB2
  go_wp2_with fail
  refine (D2.out _).mono ?_
  rintro e w4 ⟨rfl, hB4⟩
  have HB4 := Lib.hid (HB3.out.trans (hB4.mono HB3.out.size))
  clear hB4 HB3
  go_wp2_with fail
  refine (D3.out _).mono ?_
  rintro e w5 ⟨rfl, rfl⟩
  go_wp2_with fail
  refine (D4.out _).mono ?_
  rintro e w6 ⟨rfl, hB6⟩
  have HB6 := Lib.hid (HBW.out.trans ((HB4.out.trans (hB6.mono HB4.out.size)).mono HBW.out.size))
  clear hB6 HB4
  go_wp2
  go_ret
  exact ⟨rfl, HB6.out⟩


theorem walkV {H : Type} {enc : TypeId × Value → H} {base : Nat} {d : DataW H} {pl : List MemPlace} (c : Int) (t : ByteArray) (v : Value) (w : World) (hc : I64 c) (ht : t.size ≤ 140737488351232)
    (hv : Value.okWide Tryd.prog w .any base 36 v) (h : DataW.Trod enc Tryd.prog w 0 (fun _ => true) true 36 v d pl) (hs : Open.Sized Tryd.prog 36 d) (hL : Sum.Laid w) :
    Calls Tryd.prog 4 #[.int .i64 c, .string t, v] w fun e w' => e = .returned (.bool true) ∧ Below w.heap.size w w' := by
  obtain ⟨a, b, rfl, ha, hb⟩ := Open.open_str2 Tryd.underlying36 Tryd.underlying9 (by kernel_rfl) (by kernel_rfl) hv h hs
  exact walk c t a b w hc ht ha hb hL

end Go.Proofs.YtoiikkfhbpeemaaDoor.Law2
