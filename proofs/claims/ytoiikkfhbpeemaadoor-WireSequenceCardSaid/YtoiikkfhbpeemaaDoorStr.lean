/- wire.String, dialtoneref01.String, the two PutStrings, pick and NumberFrom, by their contracts. -/
import Derived.Test.YtoiikkfhbpeemaaDoorRefInt
namespace Go.Proofs.YtoiikkfhbpeemaaDoor.Str
set_option linter.unusedVariables false
set_option linter.unusedSimpArgs false
open Go Go.RowKit Go.Proofs.YtoiikkfhbpeemaaDoor.PutInt Go.Proofs.YtoiikkfhbpeemaaDoor.IntW
open Go.Proofs.YtoiikkfhbpeemaaDoor.Leb

/-- what String returns, as a tuple -/
def resS (x : List UInt8 × Int × Int) : Value := .tuple #[.string (bs x.1), .int .i64 x.2.1, .int .i64 x.2.2]
theorem resS_eq {x y : List UInt8 × Int × Int} (h : x = y) : Ending.returned (resS x) = .returned (resS y) := by rw [h]
/-- what PutInt and PutString return, as a tuple -/
def resP (x : List UInt8 × Int) : Value := .tuple #[.string (bs x.1), .int .i64 x.2]
theorem resP_eq {x y : List UInt8 × Int} (h : x = y) : Ending.returned (resP x) = .returned (resP y) := by rw [h]

attribute [local go_sem] res resS resP

theorem intL_bound {l : List UInt8} {p n nx : Int} (h : intL l p = (n, nx, 0)) : 0 ≤ nx ∧ nx ≤ l.length ∧ InRange n := by
  unfold intL at h
  split at h
  · simp at h
  · rename_i hp
    split at h
    · simp at h
    · rename_i m k hd
      simp only [Prod.mk.injEq] at h
      obtain ⟨rfl, rfl, _⟩ := h
      obtain ⟨h1, h2, h3, h4⟩ := dec_sound hd
      rw [List.length_drop] at h4
      exact ⟨by omega, by omega, h1⟩
theorem intL_err {l : List UInt8} {p n nx e : Int} (h : intL l p = (n, nx, e)) : e = 0 ∨ e = 2 ∨ e = 10 := by
  unfold intL at h
  split at h
  · simp only [Prod.mk.injEq] at h; omega
  · split at h <;> (simp only [Prod.mk.injEq] at h; omega)

theorem bs_append (l : List UInt8) (s : ByteArray) : bs l ++ s = bs (l ++ s.data.toList) := by
  rw [← bs_eq (bs l ++ s)]
  congr 1

theorem str_of (s : ByteArray) (a b : Nat) : s.extract a b = bs ((s.data.toList.drop a).take (b - a)) := by
  rw [← bs_eq (s.extract a b), Lib.extract_data]

set_option maxHeartbeats 2000000 in
theorem str_any (s : ByteArray) (p : Int) (w : World) (hs : s.size ≤ 140737488351232) :
    Calls Tryd.prog 17 #[.string s, .int .i64 p] w fun e w' => e = .returned (resS (strL s.data.toList p)) ∧ Below w.heap.size w w' := by
  obtain ⟨n, nx, er, hx⟩ : ∃ n nx er, intL s.data.toList p = (n, nx, er) := ⟨_, _, _, rfl⟩
  have hcall : Calls Tryd.prog 15 #[.string s, .int .i64 p] w fun e w' => e = .returned (res (intL s.data.toList p)) ∧ Below w.heap.size w w' := (IntW.any s p w hs).mono fun e w' h => ⟨h.1, h.2 ▸ Below.refl _ _⟩
  rw [hx] at hcall
  have HC := Lib.hid hcall
  clear hcall
  by_cases he : er = 0
  · subst he
    obtain ⟨b1, b2, b3⟩ := intL_bound hx
    have b4 := b3.1
    have b5 := b3.2
    have hlen : s.data.toList.length = s.size := by simp
    rw [hlen] at b2
    have HE : Hid (strL s.data.toList p = if n < 0 ∨ 65536 < n ∨ (s.size : Int) - nx < n then ([], 0, 10) else ((s.data.toList.drop nx.toNat).take n.toNat, nx + n, 0)) := by
      show _ = _
      unfold strL; rw [hx]; simp only; rw [if_neg (by simp), hlen]
    clear b3 hx hlen
    go_enter Tryd.func17, Tryd.ntmps17
    go_wp2_with (go_at_call 15; refine (HC.out).mono ?_; rintro e w' ⟨rfl, hB⟩)
    · have h1 : (n < 0 ∨ 65536 < n) ∨ (s.size : Int) - nx < n := by assumption
      go_ret3
      refine ⟨resS_eq (x := ([], 0, 10)) ?_, hB⟩
      rw [HE.out, if_pos (by omega)]
    · have h1 : (0 ≤ n ∧ n ≤ 65536) ∧ n ≤ (s.size : Int) - nx := by assumption
      go_ret3
      refine ⟨(?_ : Ending.returned (.tuple #[.string (s.extract nx.toNat (nx + n).toNat), .int .i64 (nx + n), .int .i64 0]) = _), hB⟩
      rw [str_of, show (nx + n).toNat - nx.toNat = n.toNat by omega]
      exact resS_eq (x := ((s.data.toList.drop nx.toNat).take n.toNat, nx + n, 0)) (by rw [HE.out, if_neg (by omega)])
    · have h1 : 65536 < n := by assumption
      go_ret3
      refine ⟨resS_eq (x := ([], 0, 10)) ?_, hB⟩
      rw [HE.out, if_pos (by omega)]
    · have h1 : n < 0 := by assumption
      go_ret3
      refine ⟨resS_eq (x := ([], 0, 10)) ?_, hB⟩
      rw [HE.out, if_pos (by omega)]
  · have HE : Hid (strL s.data.toList p = ([], 0, er)) := by
      show _ = _
      unfold strL; rw [hx]; simp only; rw [if_pos he]
    have t0 : (er != 0) = true := by rw [bne_iff_ne]; exact he
    clear hx
    go_enter Tryd.func17, Tryd.ntmps17
    go_wp2_with (go_at_call 15; refine (HC.out).mono ?_; rintro e w' ⟨rfl, hB⟩)
    go_ret3
    exact ⟨resS_eq (x := ([], 0, er)) HE.out.symm, hB⟩

set_option maxHeartbeats 1000000 in
theorem put_any (s : ByteArray) (w : World) (hs : s.size ≤ 140737488351232) :
    Calls Tryd.prog 19 #[.string s] w fun e w' => e = .returned (resP (putS s.data.toList)) ∧ Below w.heap.size w w' := by
  have hlen : s.data.toList.length = s.size := by simp
  by_cases hb : 65536 < s.size
  · have HE : Hid (putS s.data.toList = ([], 10)) := by show _ = _; unfold putS; rw [if_neg (by omega)]
    have t1 : decide (65536 < s.size) = true := decide_eq_true hb
    clear hlen
    go_enter Tryd.func19, Tryd.ntmps19
    go_wp2
    go_ret2
    exact ⟨resP_eq (x := ([], 10)) HE.out.symm, Below.refl _ _⟩
  · have HE : Hid (putS s.data.toList = ((putL (s.size : Int)).1 ++ s.data.toList, 0)) := by
      show _ = _
      unfold putS putL
      rw [if_pos (by omega), if_pos (by unfold InRange; omega), zig_nat, hlen]
    have hsz : (bs (putL (s.size : Int)).1).size + s.size ≤ 9223372036854775807 := by
      rw [bs_size, putL, if_pos (by unfold InRange; omega)]
      have := zig_len (n := (s.size : Int)) (by unfold InRange; omega)
      simp only; omega
    have t1 : decide (65536 < s.size) = false := decide_eq_false hb
    have HC := Lib.hid (PutInt.any (s.size : Int) w)
    clear hlen
    generalize (putL (s.size : Int)).2 = er at HC
    generalize (putL (s.size : Int)).1 = tx at HC HE hsz
    go_enter Tryd.func19, Tryd.ntmps19
    go_wp2_with (go_at_call 12; refine (HC.out).mono ?_; rintro e w' ⟨rfl, hB⟩)
    go_ret2
    refine ⟨(?_ : Ending.returned (.tuple #[.string (bs tx ++ s), .int .i64 0]) = _), hB⟩
    rw [bs_append]
    exact resP_eq (x := (tx ++ s.data.toList, 0)) HE.out.symm

set_option maxHeartbeats 2000000 in
theorem rstr_any (s : ByteArray) (p : Int) (w : World) (hs : s.size ≤ 140737488351232) :
    Calls Tryd.prog 18 #[.string s, .int .i64 p] w fun e w' => e = .returned (resS (strL s.data.toList p)) ∧ Below w.heap.size w w' := by
  obtain ⟨n, nx, er, hx⟩ : ∃ n nx er, intL s.data.toList p = (n, nx, er) := ⟨_, _, _, rfl⟩
  have hcall : Calls Tryd.prog 16 #[.string s, .int .i64 p] w fun e w' => e = .returned (res (intL s.data.toList p)) ∧ Below w.heap.size w w' := RefInt.any s p w hs
  rw [hx] at hcall
  have HC := Lib.hid hcall
  clear hcall
  by_cases he : er = 0
  · subst he
    obtain ⟨b1, b2, b3⟩ := intL_bound hx
    have b4 := b3.1
    have b5 := b3.2
    have hlen : s.data.toList.length = s.size := by simp
    rw [hlen] at b2
    have HE : Hid (strL s.data.toList p = if n < 0 ∨ 65536 < n ∨ (s.size : Int) - nx < n then ([], 0, 10) else ((s.data.toList.drop nx.toNat).take n.toNat, nx + n, 0)) := by
      show _ = _
      unfold strL; rw [hx]; simp only; rw [if_neg (by simp), hlen]
    clear b3 hx hlen
    go_enter Tryd.func18, Tryd.ntmps18
    go_wp2_with (go_at_call 16; refine (HC.out).mono ?_; rintro e w' ⟨rfl, hB⟩)
    · have h1 : (n < 0 ∨ 65536 < n) ∨ (s.size : Int) - nx < n := by assumption
      go_ret3
      refine ⟨resS_eq (x := ([], 0, 10)) ?_, hB⟩
      rw [HE.out, if_pos (by omega)]
    · have h1 : (0 ≤ n ∧ n ≤ 65536) ∧ n ≤ (s.size : Int) - nx := by assumption
      go_ret3
      refine ⟨(?_ : Ending.returned (.tuple #[.string (s.extract nx.toNat (nx + n).toNat), .int .i64 (nx + n), .int .i64 0]) = _), hB⟩
      rw [str_of, show (nx + n).toNat - nx.toNat = n.toNat by omega]
      exact resS_eq (x := ((s.data.toList.drop nx.toNat).take n.toNat, nx + n, 0)) (by rw [HE.out, if_neg (by omega)])
    · have h1 : 65536 < n := by assumption
      go_ret3
      refine ⟨resS_eq (x := ([], 0, 10)) ?_, hB⟩
      rw [HE.out, if_pos (by omega)]
    · have h1 : n < 0 := by assumption
      go_ret3
      refine ⟨resS_eq (x := ([], 0, 10)) ?_, hB⟩
      rw [HE.out, if_pos (by omega)]
  · have HE : Hid (strL s.data.toList p = ([], 0, er)) := by
      show _ = _
      unfold strL; rw [hx]; simp only; rw [if_pos he]
    have t0 : (er != 0) = true := by rw [bne_iff_ne]; exact he
    clear hx
    go_enter Tryd.func18, Tryd.ntmps18
    go_wp2_with (go_at_call 16; refine (HC.out).mono ?_; rintro e w' ⟨rfl, hB⟩)
    go_ret3
    exact ⟨resS_eq (x := ([], 0, er)) HE.out.symm, hB⟩

set_option maxHeartbeats 1000000 in
theorem rput_any (s : ByteArray) (w : World) (hs : s.size ≤ 140737488351232) :
    Calls Tryd.prog 20 #[.string s] w fun e w' => e = .returned (resP (putS s.data.toList)) ∧ Below w.heap.size w w' := by
  have hlen : s.data.toList.length = s.size := by simp
  by_cases hb : 65536 < s.size
  · have HE : Hid (putS s.data.toList = ([], 10)) := by show _ = _; unfold putS; rw [if_neg (by omega)]
    have t1 : decide (65536 < s.size) = true := decide_eq_true hb
    clear hlen
    go_enter Tryd.func20, Tryd.ntmps20
    go_wp2
    go_ret2
    exact ⟨resP_eq (x := ([], 10)) HE.out.symm, Below.refl _ _⟩
  · have HE : Hid (putS s.data.toList = ((putL (s.size : Int)).1 ++ s.data.toList, 0)) := by
      show _ = _
      unfold putS putL
      rw [if_pos (by omega), if_pos (by unfold InRange; omega), zig_nat, hlen]
    have hsz : (bs (putL (s.size : Int)).1).size + s.size ≤ 9223372036854775807 := by
      rw [bs_size, putL, if_pos (by unfold InRange; omega)]
      have := zig_len (n := (s.size : Int)) (by unfold InRange; omega)
      simp only; omega
    have t1 : decide (65536 < s.size) = false := decide_eq_false hb
    have HC := Lib.hid (RefPut.any (s.size : Int) w)
    clear hlen
    generalize (putL (s.size : Int)).2 = er at HC
    generalize (putL (s.size : Int)).1 = tx at HC HE hsz
    go_enter Tryd.func20, Tryd.ntmps20
    go_wp2_with (go_at_call 13; refine (HC.out).mono ?_; rintro e w' ⟨rfl, hB⟩)
    go_ret2
    refine ⟨(?_ : Ending.returned (.tuple #[.string (bs tx ++ s), .int .i64 0]) = _), hB⟩
    rw [bs_append]
    exact resP_eq (x := (tx ++ s.data.toList, 0)) HE.out.symm


/-- what pick makes of its first argument -/
def pk (c : Int) : Int := if c < 0 then -(c + 1) else c
theorem pk_nonneg (c : Int) : 0 ≤ pk c := by unfold pk; split <;> omega

def I64 (c : Int) : Prop := -9223372036854775808 ≤ c ∧ c ≤ 9223372036854775807
theorem pick_facts (c : Int) (h : I64 c) (hn : c < 0) : ∃ a b : Int, wrap64 (c + 1) = a ∧ wrap64 (-a) = b ∧ 0 ≤ b ∧ b = pk c := by
  unfold I64 at h
  refine ⟨c + 1, -(c + 1), ?_, ?_, by omega, ?_⟩
  · unfold wrap64; omega
  · unfold wrap64; omega
  · unfold pk; rw [if_pos hn]

theorem pick_any (c n : Int) (w : World) (hc : I64 c) (hn : 0 < n) :
    Calls Tryd.prog 14 #[.int .i64 c, .int .i64 n] w fun e w' => e = .returned (.int .i64 (pk c % n)) ∧ w = w' := by
  by_cases h : c < 0
  · obtain ⟨a, b, e1, e2, hb, hp⟩ := pick_facts c hc h
    have t1 : decide (c < 0) = true := decide_eq_true h
    rw [← hp]
    clear hp hc h
    go_enter Tryd.func14, Tryd.ntmps14
    go_wp2
    go_ret
    exact ⟨rfl, rfl⟩
  · have t1 : decide (c < 0) = false := decide_eq_false h
    have hp : c = pk c := by unfold pk; rw [if_neg h]
    rw [← hp]
    have h0 : 0 ≤ c := by omega
    clear hp hc h
    go_enter Tryd.func14, Tryd.ntmps14
    go_wp2
    go_ret
    exact ⟨rfl, rfl⟩

/-- the bounds among which NumberFrom chooses -/
def tabN : List Int := [64, 128, 8192, 16384, 1073741824, 36028797018963968, 576460752303423488, 2]
def nf (c : Int) : Int := if 8 ≤ pk c % 16 then -((pk c % 4611686018427387904 / 8) % tabN.getD (pk c % 8).toNat 0) else (pk c % 4611686018427387904 / 8) % tabN.getD (pk c % 8).toNat 0
theorem tabN_pos (j : Nat) (h : j < 8) : 2 ≤ tabN.getD j 0 ∧ tabN.getD j 0 ≤ 576460752303423488 := by
  have : ∀ j : Fin 8, 2 ≤ tabN.getD j.1 0 ∧ tabN.getD j.1 0 ≤ 576460752303423488 := by decide
  exact this ⟨j, h⟩
theorem nf_range (c : Int) : InRange (nf c) := by
  have h := tabN_pos (pk c % 8).toNat (by omega)
  unfold nf InRange
  generalize tabN.getD (pk c % 8).toNat 0 = t at h
  have h1 := Int.emod_nonneg (pk c % 4611686018427387904 / 8) (b := t) (by omega)
  have h2 := Int.emod_lt_of_pos (pk c % 4611686018427387904 / 8) (b := t) (by omega)
  split <;> omega

set_option maxHeartbeats 1000000 in
theorem nf_any (c : Int) (w : World) (hc : I64 c) :
    Calls Tryd.prog 11 #[.int .i64 c] w fun e w' => e = .returned (.int .i64 (nf c)) ∧ Below w.heap.size w w' := by
  obtain ⟨q, hq⟩ : ∃ q, pk c % 4611686018427387904 = q := ⟨_, rfl⟩
  have hq0 : 0 ≤ q := by have := pk_nonneg c; omega
  have hq1 : q ≤ 4611686018427387903 := by omega
  obtain ⟨j, hj⟩ : ∃ j : Nat, pk c % 8 = (j : Int) := ⟨(pk c % 8).toNat, by have := pk_nonneg c; omega⟩
  have hj8 : j < 8 := by omega
  obtain ⟨ht1, ht2⟩ := tabN_pos j hj8
  obtain ⟨t, ht⟩ : ∃ t, tabN.getD j 0 = t := ⟨_, rfl⟩
  obtain ⟨m, hm⟩ : ∃ m, (q / 8) % t = m := ⟨_, rfl⟩
  have hm0 : 0 ≤ m := by rw [← hm]; exact Int.emod_nonneg _ (by omega)
  have hm1 : m ≤ 576460752303423488 := by rw [← hm]; have := Int.emod_lt_of_pos (q / 8) (b := t) (by omega); omega
  obtain ⟨r, hr⟩ : ∃ r, pk c % 16 = r := ⟨_, rfl⟩
  have HN : Hid (nf c = if 8 ≤ r then -m else m) := by
    show _ = _
    unfold nf; rw [hq, hj, hr, Int.toNat_natCast, ht, hm]
  have c1 := Lib.hid (fun w => pick_any c 4611686018427387904 w hc (by decide))
  have c2 := Lib.hid (fun w => pick_any c 8 w hc (by decide))
  have c4 := Lib.hid (fun w => pick_any c 16 w hc (by decide))
  have c3 := Lib.hid (fun w => pick_any (q / 8) t w (by unfold I64; omega) (by omega))
  rw [hq] at c1
  rw [hj] at c2
  rw [hr] at c4
  rw [show pk (q / 8) = q / 8 by unfold pk; rw [if_neg (by omega)], hm] at c3
  rw [ht] at ht1 ht2
  have hcell : (w.alloc (.cells #[.int .i64 64, .int .i64 128, .int .i64 8192, .int .i64 16384, .int .i64 1073741824, .int .i64 36028797018963968, .int .i64 576460752303423488, .int .i64 2] 3)).cell? ⟨w.heap.size, j, none⟩ = some (.int .i64 t) := by
    rw [← ht]
    have : ∀ j : Fin 8, (#[Value.int .i64 64, .int .i64 128, .int .i64 8192, .int .i64 16384, .int .i64 1073741824, .int .i64 36028797018963968, .int .i64 576460752303423488, .int .i64 2] : Array Value)[j.1]? = some (.int .i64 (tabN.getD j.1 0)) := by
      intro j; match j with
      | 0 => rfl
      | 1 => rfl
      | 2 => rfl
      | 3 => rfl
      | 4 => rfl
      | 5 => rfl
      | 6 => rfl
      | 7 => rfl
    have h2 := World.alloc_heap_new w (.cells #[.int .i64 64, .int .i64 128, .int .i64 8192, .int .i64 16384, .int .i64 1073741824, .int .i64 36028797018963968, .int .i64 576460752303423488, .int .i64 2] 3)
    unfold World.cell?
    rw [h2]
    exact this ⟨j, hj8⟩
  clear hq hj hm hr ht hc
  go_enter Tryd.func11, Tryd.ntmps11
  go_wp2_with fail
  refine (c1.out _).mono ?_
  rintro e w' ⟨rfl, rfl⟩
  go_wp2_with fail
  refine (c2.out _).mono ?_
  rintro e w' ⟨rfl, rfl⟩
  go_wp2_with fail
  refine (c3.out _).mono ?_
  rintro e w' ⟨rfl, rfl⟩
  by_cases h8 : 8 ≤ r
  · have t8 : decide (8 ≤ r) = true := decide_eq_true h8
    have h2 := HN.out
    rw [if_pos h8] at h2
    have H2 := Lib.hid h2
    clear h2 HN h8
    go_wp2_with (go_at_call 14; refine (c4.out _).mono ?_; rintro e w' ⟨rfl, rfl⟩)
    go_ret
    exact ⟨Sum.ret_int H2.out.symm, (Below.refl _ _).alloc (Nat.le_refl _) _⟩
  · have t8 : decide (8 ≤ r) = false := decide_eq_false h8
    have h2 := HN.out
    rw [if_neg h8] at h2
    have H2 := Lib.hid h2
    clear h2 HN h8
    go_wp2_with (go_at_call 14; refine (c4.out _).mono ?_; rintro e w' ⟨rfl, rfl⟩)
    go_ret
    exact ⟨Sum.ret_int H2.out.symm, (Below.refl _ _).alloc (Nat.le_refl _) _⟩

end Go.Proofs.YtoiikkfhbpeemaaDoor.Str
