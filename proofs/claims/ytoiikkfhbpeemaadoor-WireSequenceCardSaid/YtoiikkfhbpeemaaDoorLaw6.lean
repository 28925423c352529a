/- WireSequence: the walk. -/
import Derived.Test.YtoiikkfhbpeemaaDoorSane
import Derived.Test.YtoiikkfhbpeemaaDoorKit
import Derived.Test.YtoiikkfhbpeemaaDoorSeq
import Derived.Test.YtoiikkfhbpeemaaDoorOpen2
import Derived.WalkSpells
import Derived.Deep.RegionWith
import Derived.Lib.QuietBelow
import Derived.BigQuiet
namespace Go.Proofs.YtoiikkfhbpeemaaDoor.Law6
set_option linter.unusedVariables false
set_option linter.unusedSimpArgs false
open Go Go.RowKit Go.Proofs.YtoiikkfhbpeemaaDoor.PutInt Go.Proofs.YtoiikkfhbpeemaaDoor.IntW Go.Proofs.YtoiikkfhbpeemaaDoor.Str
open Go.Proofs.YtoiikkfhbpeemaaDoor.Leb Go.Proofs.YtoiikkfhbpeemaaDoor.Seq

/-- min of three, under one name -/
def mn3 (a b c : Int) : Int := if c < (if b < a then b else a) then c else (if b < a then b else a)
theorem min_three (ats : Array TypeId) (ty : TypeId) (k k1 k2 : IntKind) (a b c : Int) : Builtin.min_ ats ty #[.int k a, .int k1 b, .int k2 c] = pure (.int k (mn3 a b c)) := by
  simp only [Kit.min_3, Kit.min2_i, mn3, pure_bind]
/-- min of two, under one name -/
def mn2 (a b : Int) : Int := if b < a then b else a
theorem min_two (ats : Array TypeId) (ty : TypeId) (k k1 : IntKind) (a b : Int) : Builtin.min_ ats ty #[.int k a, .int k1 b] = pure (.int k (mn2 a b)) := by
  simp only [Kit.min_2, Kit.min2_i, mn2, pure_bind]
attribute [local go_sem] min_three min_two resS res resP

theorem mn3_eq (a b : Nat) : ∃ n : Nat, n ≤ a ∧ n ≤ b ∧ n ≤ 20 ∧ mn3 a b 20 = (n : Int) := by
  refine ⟨min (min a b) 20, by omega, by omega, by omega, ?_⟩
  unfold mn3
  split <;> split <;> omega

theorem mn2_eq (s : ByteArray) : ∃ m : Nat, mn2 (s.size : Int) 100 = (m : Int) ∧ m ≤ s.size ∧ (s.extract 0 m).size ≤ 100 ∧ s.extract 0 m = s.extract 0 100 := by
  refine ⟨min s.size 100, ?_, Nat.min_le_left _ _, ?_, ?_⟩
  · unfold mn2; split <;> omega
  · rw [ByteArray.size_extract]; omega
  · by_cases h : s.size ≤ 100
    · rw [Nat.min_eq_left h]
      apply ByteArray.ext
      simp only [ByteArray.data_extract]
      apply Array.ext'
      simp [List.take_of_length_le, h]
    · rw [Nat.min_eq_right (by omega)]

theorem keep {w wr : World} {a : Addr} {v : Value} (h : w.cell? a = some v) (hb : Below w.heap.size w wr) : wr.cell? a = some v := by
  obtain ⟨o, ho, _⟩ := cells_of_cell h
  exact (hb.cell (Array.getElem?_eq_some_iff.1 ho).1).trans h

theorem put_T (s : ByteArray) (w : World) (hs : s.size ≤ 100) :
    Calls Tryd.prog 19 #[.string s] w fun e w' => e = .returned (.tuple #[.string (bs (leb (2 * s.data.toList.length) ++ s.data.toList)), .int .i64 0]) ∧ Below w.heap.size w w' := by
  have h := put_any s w (by omega)
  rw [putS_eq (by simp; omega)] at h
  exact h

theorem int_j {N : Nat → Int} {T : Nat → ByteArray} (hn : ∀ i, InRange (N i)) (hv : ∀ i, (T i).data.toList.length ≤ 100) {j k : Nat} (h : j < k) (hk : k ≤ 20) (w : World) :
    Calls Tryd.prog 15 #[.string (bs (E N T k)), .int .i64 ((E N T j).length : Nat)] w fun e w' => e = .returned (.tuple #[.int .i64 (N j), .int .i64 (mid N T j : Nat), .int .i64 0]) ∧ w = w' := by
  have hl := E_len hn hv k
  have := IntW.any (bs (E N T k)) ((E N T j).length : Nat) w (by rw [bs_size]; omega)
  rw [bs_data, int_at hn h] at this
  exact this

theorem str_j {N : Nat → Int} {T : Nat → ByteArray} (hn : ∀ i, InRange (N i)) (hv : ∀ i, (T i).data.toList.length ≤ 100) {j k : Nat} (h : j < k) (hk : k ≤ 20) (w : World) :
    Calls Tryd.prog 17 #[.string (bs (E N T k)), .int .i64 (mid N T j : Nat)] w fun e w' => e = .returned (.tuple #[.string (T j), .int .i64 ((E N T (j + 1)).length : Nat), .int .i64 0]) ∧ Below w.heap.size w w' := by
  have hl := E_len hn hv k
  have := str_any (bs (E N T k)) (mid N T j : Nat) w (by rw [bs_size]; omega)
  rw [bs_data, str_at hv h] at this
  have e : resS ((T j).data.toList, (((E N T (j + 1)).length : Nat) : Int), 0) = .tuple #[.string (T j), .int .i64 ((E N T (j + 1)).length : Nat), .int .i64 0] := by
    unfold resS; rw [bs_eq]
  rw [e] at this
  exact this

theorem int_z (l : List UInt8) (hl : l.length ≤ 2360) (w : World) :
    Calls Tryd.prog 15 #[.string (bs l), .int .i64 (l.length : Nat)] w fun e w' => e = .returned (.tuple #[.int .i64 0, .int .i64 0, .int .i64 10]) ∧ w = w' := by
  have := IntW.any (bs l) (l.length : Nat) w (by rw [bs_size]; omega)
  rw [bs_data, int_end] at this
  exact this

attribute [local irreducible] ByteArray.extract

set_option maxRecDepth 100000 in
set_option maxHeartbeats 1000000 in
theorem walk (A0 A1 : Option Addr) (n0 n1 c0 c1 : Nat) (c : Nat → Int) (t : Nat → ByteArray) (w : World) (hn0 : n0 ≤ 140737488351232) (hn1 : n1 ≤ 140737488351232)
    (hc : ∀ i, I64 (c i)) (ht : ∀ i, (t i).size ≤ 140737488351232)
    (h0 : ∀ i, i < n0 → ∃ ad, A0 = some ad ∧ w.cell? (ad.add i) = some (.int .i64 (c i))) (h1 : ∀ i, i < n1 → ∃ ad, A1 = some ad ∧ w.cell? (ad.add i) = some (.string (t i))) (hL : Sum.Laid w) :
    Calls Tryd.prog 6 #[.slice A0 n0 c0, .slice A1 n1 c1] w fun e w' => e = .returned (.bool true) ∧ Below w.heap.size w w' := by
  have HL := Lib.hid hL
  have Hc := Lib.hid hc
  have H0 := Lib.hid h0
  have H1 := Lib.hid h1
  have HT := Lib.hid ht
  clear hL hc h0 h1 ht
  obtain ⟨n, hna, hnb, hn, hm⟩ := mn3_eq n0 n1
  obtain ⟨N, hN⟩ : ∃ N : Nat → Int, ∀ i, N i = nf (c i) := ⟨_, fun _ => rfl⟩
  obtain ⟨T, hT⟩ : ∃ T : Nat → ByteArray, ∀ i, T i = (t i).extract 0 100 := ⟨_, fun _ => rfl⟩
  have HNr := Lib.hid (show ∀ i, InRange (N i) from fun i => by rw [hN]; exact nf_range _)
  have HTl := Lib.hid (show ∀ i, (T i).size ≤ 100 from fun i => by rw [hT, ByteArray.size_extract]; omega)
  have HTd := Lib.hid (show ∀ i, (T i).data.toList.length ≤ 100 from fun i => by have := HTl.out i; simpa using this)
  have HN := Lib.hid hN
  have HTe := Lib.hid hT
  clear hN hT
  go_enter Tryd.func6, Tryd.ntmps6
  go_wp2_with fail
  refine (Sane.any _ HL.out).mono ?_
  rintro e w1 ⟨rfl, hB1⟩
  have HB1 := Lib.hid hB1
  clear hB1
  go_wp2_with fail
  go_loopw [7, 8] (fun s i wr => ∃ k : Nat, k ≤ n ∧ s = .string (bs (E N T k)) ∧ i = .int .i64 k ∧ Hid (Below w.heap.size w wr)) (fun _ i _ => n - (intOf i).toNat)
  case atStart => exact ⟨0, by omega, rfl, rfl, HB1.out⟩
  case round =>
    obtain ⟨k, hk, rfl, rfl, HBr⟩ := hrel
    by_cases hlt : k < n
    · obtain ⟨ad0, rfl, hc0⟩ := H0.out k (by omega)
      obtain ⟨ad1, rfl, hc1⟩ := H1.out k (by omega)
      obtain ⟨m, hm1, hm2, hm3, hm4⟩ := mn2_eq (t k)
      rw [← HTe.out k] at hm4
      have d0 := keep hc0 HBr.out
      have C1 := Lib.hid (fun w => nf_any (c k) w (Hc.out k))
      rw [← HN.out k] at C1
      have C2 := Lib.hid (fun w => PutInt.any (N k) w)
      rw [show putL (N k) = (leb (zig (N k)), 0) by rw [putL, if_pos (HNr.out k)]] at C2
      have C3 := Lib.hid (fun w => put_T (T k) w (HTl.out k))
      have hsz : (bs (E N T (k + 1))).size ≤ 2360 := by rw [bs_size]; have := E_len HNr.out HTd.out (k + 1); omega
      have he : bs (E N T k) ++ bs (leb (zig (N k))) ++ bs (leb (2 * (T k).data.toList.length) ++ (T k).data.toList) = bs (E N T (k + 1)) := by
        rw [bs_append, bs_append, bs_data, bs_data]
        congr 1
        simp [E]
      rw [← he] at hsz
      rw [ByteArray.size_append, ByteArray.size_append] at hsz
      clear hc0
      have kn0 : k < n0 := by omega
      have kn1 : k < n1 := by omega
      go_wp2_with fail
      refine (C1.out _).mono ?_
      rintro e w2 ⟨rfl, hB2⟩
      have HB2 := Lib.hid (HBr.out.trans (hB2.mono HBr.out.size))
      clear hB2 d0
      go_wp2_with fail
      refine (C2.out _).mono ?_
      rintro e w3 ⟨rfl, hB3⟩
      have HB3 := Lib.hid (HB2.out.trans (hB3.mono HB2.out.size))
      clear hB3 HB2
      have d1 := keep hc1 HB3.out
      clear hc1
      generalize bs (leb (zig (N k))) = P at he hsz
      generalize bs (leb (2 * (T k).data.toList.length) ++ (T k).data.toList) = Q at he hsz C3
      go_wp2_with fail
      have d2 := cell_regrown d1
      clear d1
      refine wp_region_quiet_below (by kernel_rfl) (by kernel_rfl) ?_
      repeat (go_big_quiet_step (first | (go_at_call 19; with_reducible refine Calls.regrown_of (C3.out _))))
      refine wpQuiet_nil ?_
      rintro w4 ⟨p4, rfl⟩
      have HB4 := Lib.hid (HB3.out.trans ((below_regrown w3 p4.d p4.os).mono HB3.out.size))
      generalize Sort.grow (redrawn w3 p4.d) p4.os = w4 at HB4
      clear d2 HB3
      go_wp2_with fail
      go_roundw
      case rel => exact ⟨k + 1, by omega, rfl, by go_num, HB4⟩
      case measure => simp [intOf]; omega
    · obtain rfl : k = n := by omega
      clear hlt hk
      have HBs := Lib.hid HBr.out
      have hsz : (bs (E N T k)).size ≤ 2360 := by rw [bs_size]; have := E_len HNr.out HTd.out k; omega
      have hEk : (E N T k).length ≤ 2360 := by rw [← bs_size]; exact hsz
      go_wp2_with fail
      go_loopw [13, 14] (fun p i wq => ∃ j : Nat, j ≤ k ∧ p = .int .i64 ((E N T j).length : Nat) ∧ i = .int .i64 j ∧ Hid (Below w.heap.size w wq)) (fun _ i _ => k - (intOf i).toNat)
      case atStart => exact ⟨0, by omega, rfl, rfl, HBs.out⟩
      case round =>
        obtain ⟨j, hj, rfl, rfl, HBq⟩ := hrel
        by_cases hlt : j < k
        · obtain ⟨ad0, rfl, hc0⟩ := H0.out j (by omega)
          obtain ⟨ad1, rfl, hc1⟩ := H1.out j (by omega)
          obtain ⟨m, hm1, hm2, hm3, hm4⟩ := mn2_eq (t j)
          rw [← HTe.out j] at hm4
          have F1 := Lib.hid (fun w => int_j (T := T) HNr.out HTd.out hlt hn w)
          have F2 := Lib.hid (fun w => str_j (N := N) (T := T) HNr.out HTd.out hlt hn w)
          have F3 := Lib.hid (fun w => nf_any (c j) w (Hc.out j))
          rw [← HN.out j] at F3
          have HM := Lib.hid (mid_le (n := N) (v := T) hlt)
          have HE := Lib.hid (show (E N T (j + 1)).length ≤ 2360 by have := E_len HNr.out HTd.out (j + 1); omega)
          go_wp2_with fail
          refine (F1.out _).mono ?_
          rintro e w2 ⟨rfl, rfl⟩
          generalize mid N T j = md at F1 F2 HM
          go_wp2_with fail
          refine (F2.out _).mono ?_
          rintro e w3 ⟨rfl, hB3⟩
          have HB3 := Lib.hid (HBq.out.trans (hB3.mono HBq.out.size))
          clear hB3 HBq
          have d0 := cell_regrown (keep hc0 HB3.out)
          have d1 := cell_regrown (keep hc1 HB3.out)
          clear hc0 hc1
          have kn0 : j < n0 := by omega
          have kn1 : j < n1 := by omega
          go_wp2_with fail
          refine wp_region_quiet_below (by kernel_rfl) (by kernel_rfl) ?_
          repeat (go_big_quiet_step (first | (go_at_call 11; with_reducible refine Calls.regrown_of (F3.out _))))
          refine wpQuiet_nil ?_
          rintro w4 ⟨p4, rfl⟩
          have HB4 := Lib.hid (HB3.out.trans ((below_regrown w3 p4.d p4.os).mono HB3.out.size))
          generalize Sort.grow (redrawn w3 p4.d) p4.os = w4 at HB4
          clear d0 d1 HB3
          go_wp2
          go_roundw
          case rel => exact ⟨j + 1, by omega, rfl, by go_num, HB4⟩
          case measure => simp [intOf]; omega
        · obtain rfl : j = k := by omega
          have F4 := Lib.hid (fun w => int_z (E N T j) hEk w)
          have hsl : (bs (E N T j)).size = (E N T j).length := bs_size _
          go_wp2_with fail
          refine (F4.out _).mono ?_
          rintro e w2 ⟨rfl, rfl⟩
          generalize (E N T j).length = len at hsl hEk
          go_wp2
          go_ret
          exact ⟨rfl, HBq.out⟩

theorem walkV {H : Type} {enc : TypeId × Value → H} {base : Nat} {d d2 : DataW H} {pl pl2 : List MemPlace} (v v2 : Value) (w : World)
    (hv : Value.okWide Tryd.prog w .any base 24 v) (h : DataW.Trod enc Tryd.prog w 0 (fun _ => true) true 24 v d pl) (hs : Open.Sized Tryd.prog 24 d)
    (hv2 : Value.okWide Tryd.prog w .any base 40 v2) (h2 : DataW.Trod enc Tryd.prog w 0 (fun _ => true) true 40 v2 d2 pl2) (hs2 : Open.Sized Tryd.prog 40 d2) (hL : Sum.Laid w) :
    Calls Tryd.prog 6 #[v, v2] w fun e w' => e = .returned (.bool true) ∧ Below w.heap.size w w' := by
  obtain ⟨A0, n0, c0, z, rfl, hn0, hz, h0⟩ := Open2.open_ints Tryd.underlying24 Tryd.underlying3 (by kernel_rfl) (by kernel_rfl) hv h hs
  obtain ⟨A1, n1, c1, t, rfl, hn1, ht, h1⟩ := Open2.open_strings Tryd.underlying40 Tryd.underlying9 (by kernel_rfl) (by kernel_rfl) hv2 h2 hs2
  exact walk A0 A1 n0 n1 c0 c1 z t w hn0 hn1 hz ht h0 h1 hL

end Go.Proofs.YtoiikkfhbpeemaaDoor.Law6
