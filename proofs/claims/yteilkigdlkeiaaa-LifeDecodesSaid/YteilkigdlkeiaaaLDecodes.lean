/- LifeDecodes: the printed law answers true. -/
import Derived.Test.YteilkigdlkeiaaaQ14
import Derived.Test.YteilkigdlkeiaaaPu
import Derived.Test.YteilkigdlkeiaaaLeb2
import Derived.Laws.Strings
namespace Go.Proofs.Yteilkigdlkeiaaa.Q
open Go.RowKit Go.Proofs.YteilkigdlkeiaaaW.PrintWords Go.Proofs.YteilkigdlkeiaaaW.PrintLast Go.Proofs.YteilkigdlkeiaaaW.PrintMore
set_option linter.unusedVariables false
set_option linter.unusedSimpArgs false
open Go Lf
open Leb (leb zig putL intL dec InRange)

theorem inR {n : Int} (h0 : -1 ≤ n) (h1 : n ≤ 10000000) : InRange n := by unfold InRange; omega
theorem formed_in {e : Lf.Ev} (h : formedB e = true) : InRange e.k ∧ InRange e.a ∧ InRange e.h := by
  have := formed_facts (k := e.k) (a := e.a) (h := e.h) h
  exact ⟨inR (by omega) (by omega), inR (by omega) (by omega), inR (by omega) (by omega)⟩
theorem putL_in {n : Int} (h : InRange n) : (putL n).1 = leb (zig n) := by unfold putL; rw [if_pos h]
theorem encL_is {e : Lf.Ev} (h : formedB e = true) : encL e = leb (zig e.k) ++ (leb (zig e.a) ++ leb (zig e.h)) := by
  obtain ⟨h1, h2, h3⟩ := formed_in h
  simp [encL, putsL, putL_in h1, putL_in h2, putL_in h3]
theorem encL_len {e : Lf.Ev} (h : formedB e = true) : 0 < (encL e).length ∧ (encL e).length ≤ 27 := by
  obtain ⟨h1, h2, h3⟩ := formed_in h
  rw [encL_is h]
  have a1 := Leb.zig_len h1
  have a2 := Leb.zig_len h2
  have a3 := Leb.zig_len h3
  have a4 := Leb.leb_pos (zig e.k)
  simp only [List.length_append]
  omega
/-- an encoding is read back -/
theorem dec_enc {e : Lf.Ev} (h : formedB e = true) : decV (encL e) = some e := by
  obtain ⟨h1, h2, h3⟩ := formed_in h
  have x1 := Leb.rt_int h1 [] (leb (zig e.a) ++ leb (zig e.h))
  have x2 := Leb.rt_int h2 (leb (zig e.k)) (leb (zig e.h))
  have x3 := Leb.rt_int h3 (leb (zig e.k) ++ leb (zig e.a)) []
  rw [encL_is h]
  simp only [List.nil_append, List.append_assoc, List.append_nil, List.length_nil, Int.natCast_zero, Int.zero_add, List.length_append] at x1 x2 x3
  unfold decV
  simp only [x1]
  simp only [x2]
  rw [show ((leb (zig e.k)).length : Int) + ((leb (zig e.a)).length : Int) = (((leb (zig e.k)).length + (leb (zig e.a)).length : Nat) : Int) by omega, x3]
  simp only [List.length_append]
  rw [if_pos ⟨trivial, trivial, trivial, by omega, h⟩]
/-- what is read is an encoding -/
theorem enc_dec {l : List UInt8} {e : Lf.Ev} (h : decV l = some e) : formedB e = true ∧ encL e = l := by
  unfold decV at h
  simp only at h
  split at h
  · rename_i hc
    obtain ⟨c1, c2, c3, c4, c5⟩ := hc
    cases h
    refine ⟨c5, ?_⟩
    rw [encL_is c5]
    have hcase : ∀ p : Nat, p ≤ l.length → (intL l (p : Int)).2.2 = 0 → ∃ q : Nat, (intL l (p : Int)).2.1 = (q : Int) ∧ p ≤ q ∧ q ≤ l.length ∧ (l.drop p).take (q - p) = leb (zig (intL l (p : Int)).1) := by
      intro p hp he
      rw [Leb.intL_in hp] at he ⊢
      rcases hd : dec (l.drop p) with _ | ⟨n, k⟩
      · rw [hd] at he; simp at he
      · rw [hd] at he
        obtain ⟨-, s2, s3, s4⟩ := Leb.dec_sound hd
        rw [List.length_drop] at s4
        refine ⟨p + k, by push_cast; rfl, by omega, by omega, ?_⟩
        rw [Nat.add_sub_cancel_left]
        exact s2
    obtain ⟨p1, q1, q2, q3, q4⟩ := hcase 0 (Nat.zero_le _) c1
    rw [show ((0 : Nat) : Int) = 0 from rfl] at q1 q4
    rw [q1] at c2 c3 c4 ⊢
    obtain ⟨p2, r1, r2, r3, r4⟩ := hcase p1 q3 c2
    rw [r1] at c3 c4 ⊢
    obtain ⟨p3, t1, t2, t3, t4⟩ := hcase p2 r3 c3
    rw [t1] at c4
    have hp3 : p3 = l.length := by omega
    rw [← q4, ← r4, ← t4, hp3, List.drop_zero, Nat.sub_zero]
    have e1 : (l.drop p2).take (l.length - p2) = l.drop p2 := List.take_of_length_le (by rw [List.length_drop]; exact Nat.le_refl _)
    rw [e1]
    have e2 : (l.drop p1).take (p2 - p1) ++ l.drop p2 = l.drop p1 := by
      have : l.drop p2 = (l.drop p1).drop (p2 - p1) := by rw [List.drop_drop]; congr 1; omega
      rw [this, List.take_append_drop]
    rw [e2, List.take_append_drop]
  · cases h
/-- no encoding is the beginning of another one -/
theorem enc_pre {a b : Lf.Ev} (ha : formedB a = true) (hb : formedB b = true) {q r : List UInt8} (h : encL a ++ q = encL b ++ r) : a = b := by
  obtain ⟨a1, a2, a3⟩ := formed_in ha
  obtain ⟨b1, b2, b3⟩ := formed_in hb
  rw [encL_is ha, encL_is hb] at h
  simp only [List.append_assoc] at h
  have h1 := Leb.leb_prefix (Leb.zig_len a1) (Leb.zig_len b1) h
  rw [h1] at h
  have h := List.append_cancel_left h
  have h2 := Leb.leb_prefix (Leb.zig_len a2) (Leb.zig_len b2) h
  rw [h2] at h
  have h := List.append_cancel_left h
  have h3 := Leb.leb_prefix (Leb.zig_len a3) (Leb.zig_len b3) h
  obtain ⟨ak, aa, ah⟩ := a
  obtain ⟨bk, ba, bh⟩ := b
  simp only at h1 h2 h3
  rw [Leb.zig_inj h1, Leb.zig_inj h2, Leb.zig_inj h3]

theorem encode_is {e : Lf.Ev} (h : formedB e = true) : life_Encode.f e.k e.a e.h = some (PutInt.bs (encL e), 0) := by
  unfold life_Encode.f encT
  rw [if_pos h]
theorem bs_list (l : List UInt8) : (PutInt.bs l).toList = l := by rw [ByteArray.toList_eq]; rfl
theorem bs_sz (l : List UInt8) : (PutInt.bs l).size = l.length := PutInt.bs_size l
theorem decode_is {s : ByteArray} (h : s.size ≤ 140737488351232) : life_Decode.f s = some (decT (decV s.data.toList)) := by unfold life_Decode.f; rw [if_pos h]

theorem decodes_l0 (Z : List ByteArray) (hZ : Z.length ≤ 100) (hs : ∀ z ∈ Z, z.size ≤ 1000) :
    ∀ (d i : Nat), Z.length - i = d → i ≤ Z.length → Ev (fun k => dialtonelaw14_LifeDecodes.l0 k Z (Z.length : Int) (i : Int)) true := by
  intro d
  induction d with
  | zero =>
    intro i hd hi
    refine ⟨1, fun k hk => ?_⟩
    obtain ⟨k, rfl⟩ : ∃ m, k = m + 1 := ⟨k - 1, by omega⟩
    simp only [dialtonelaw14_LifeDecodes.l0]
    rw [if_neg (by omega)]
  | succ d ih =>
    intro i hd hi
    have hi' : i < Z.length := by omega
    obtain ⟨K, hK⟩ := ih (i + 1) (by omega) (by omega)
    have hz := hs Z[i] (List.getElem_mem hi')
    have hr : rdOf ByteArray.empty Z (i : Int) = Z[i] := by
      unfold rdOf
      simp [List.getD_eq_getElem?_getD, List.getElem?_eq_getElem hi']
    have hD : life_Decode.f Z[i] = some (decT (decV Z[i].data.toList)) := decode_is (by omega)
    refine ⟨K + 1, fun k hk => ?_⟩
    obtain ⟨k, rfl⟩ : ∃ m, k = m + 1 := ⟨k - 1, by omega⟩
    have := hK k (by omega)
    have hwb : i ≤ 1000000000 := by omega
    simp only [dialtonelaw14_LifeDecodes.l0, w_succ i hwb, hr]
    rw [if_pos (by omega), if_pos (by omega), if_pos (by omega), hD]
    rcases hd : decV Z[i].data.toList with _ | e
    · simp only [Option.bind_some, decT]
      rw [if_neg (by decide)]
      exact this
    · obtain ⟨hf, he⟩ := enc_dec hd
      simp only [Option.bind_some, decT]
      rw [if_pos trivial, encode_is hf]
      simp only [Option.bind_some]
      rw [if_pos trivial, if_pos (by rw [bs_list, he, ByteArray.toList_eq])]
      unfold life_Formed.f
      simp only [Option.bind_some]
      rw [if_pos hf]
      exact this

theorem mn30 (s : ByteArray) : 0 ≤ mn (s.size : Int) 30 ∧ mn (s.size : Int) 30 ≤ s.size ∧ mn (s.size : Int) 30 ≤ 30 := by rw [mn_is]; split <;> omega
theorem ext_sz (s : ByteArray) (a b : Nat) : (s.extract a b).size ≤ b - a := by rw [ByteArray.size_extract]; omega

theorem decodes_j1 (s : ByteArray) (at_ c : Int) (hat : I64 at_) (t : ByteArray) (ht0 : 0 < t.size) (ht : t.size ≤ 27) : Ev (fun k => dialtonelaw14_LifeDecodes.j1 k s at_ c t false) true := by
  have hp := pk_lt (c := at_) (n := (t.size : Int)) (by omega)
  have hm := mn30 s
  generalize hn : pk at_ % (t.size : Int) = n at hp
  have hpick : dialtonelaw14_pick.f at_ (t.size : Int) = some n := by rw [lpick_is hat (by omega), hn]
  have hw : wrap64 (n + 1) = n + 1 := w64 (by omega) (by omega)
  have e1 := ext_sz t 0 n.toNat
  have e2 := ext_sz t (n + 1).toNat t.size
  have e3 := ext_sz s 0 (mn (s.size : Int) 30).toNat
  have e4 : (strOfNums [c]).size = 1 := strOfNums_size [c]
  obtain ⟨K, hK⟩ := decodes_l0 [s.extract 0 (mn (s.size : Int) 30).toNat, ((t.extract 0 n.toNat) ++ (strOfNums [c])) ++ (t.extract (n + 1).toNat t.size), t ++ (s.extract 0 (mn (s.size : Int) 30).toNat)] (by simp) (fun z hz => by
    simp only [List.mem_cons, List.not_mem_nil, or_false] at hz
    rcases hz with rfl | rfl | rfl
    · omega
    · rw [ByteArray.size_append, ByteArray.size_append]; omega
    · rw [ByteArray.size_append]; omega) _ 0 rfl (Nat.zero_le _)
  refine ⟨K + 1, fun k hk => ?_⟩
  obtain ⟨k, rfl⟩ : ∃ m, k = m + 1 := ⟨k - 1, by omega⟩
  have := hK k (by omega)
  simp only [dialtonelaw14_LifeDecodes.j1, hpick]
  rw [if_neg (by decide)]
  simp only [Option.bind_some, hw]
  clear hw
  rw [if_pos hm.1, if_pos hm.2.1, if_pos hp.1, if_pos (by omega), if_pos (by omega), if_pos (by omega), if_pos (by omega), if_pos (by rw [ByteArray.size_append]; omega), if_pos (by omega)]
  exact this

theorem decodes_is (X : List SX) (hX : OkX X) (i k2 : Int) (s : ByteArray) (at_ c : Int) (hi : I64 i) (hk2 : I64 k2) (hs : s.size ≤ 140737488351232) (hat : I64 at_) (hc : 0 ≤ c ∧ c ≤ 255) : ∃ k, dialtonelaw14_LifeDecodes.f k X i k2 s at_ c = some true := by
  obtain ⟨L, ⟨K1, hK1⟩, hok, h16⟩ := made_is X hX
  have hp := pk_lt (c := at_) (n := 10000001) (by omega)
  have hpa : dialtonelaw14_pick.f at_ 10000001 = some (pk at_ % 10000001) := lpick_is hat (by omega)
  generalize pk at_ % 10000001 = ea at hp hpa
  have hform : ∀ x ∈ L ++ [(⟨5, ea, -1⟩ : SE)], formedB (toEv x) = true := by
    intro x hx
    rcases List.mem_append.1 hx with hx | hx
    · have : ∀ (es : List Lf.Ev) (l : Ln), okFrom l es = true → ∀ e ∈ es, formedB e = true := by
        intro es
        induction es with
        | nil => intro l h e he; simp at he
        | cons e es ih =>
          intro l h e' he'
          simp only [okFrom] at h
          rcases hst : Lf.step l e with _ | n
          · rw [hst] at h; cases h
          · rw [hst] at h
            rcases List.mem_cons.1 he' with rfl | he'
            · exact (step_some hst).2.1
            · exact ih n h e' he'
      exact this _ _ hok (toEv x) (List.mem_map.2 ⟨x, hx, rfl⟩)
    · rw [List.mem_singleton] at hx
      subst hx
      simp only [toEv, formedB, inB, namedB]
      simp
      exact ⟨decide_eq_true hp.1, decide_eq_true (by omega)⟩
  have hYl : (L ++ [(⟨5, ea, -1⟩ : SE)]).length = L.length + 1 := by simp
  generalize hY : L ++ [(⟨5, ea, -1⟩ : SE)] = Y at hform hYl
  have hq1 := pk_lt (c := i) (n := (Y.length : Int)) (by omega)
  have hq2 := pk_lt (c := k2) (n := (Y.length : Int)) (by omega)
  have hp1 : dialtonelaw14_pick.f i (Y.length : Int) = some (pk i % (Y.length : Int)) := lpick_is hi (by omega)
  have hp2 : dialtonelaw14_pick.f k2 (Y.length : Int) = some (pk k2 % (Y.length : Int)) := lpick_is hk2 (by omega)
  generalize pk i % (Y.length : Int) = n1 at hq1 hp1
  generalize pk k2 % (Y.length : Int) = n2 at hq2 hp2
  obtain ⟨m1, rfl⟩ : ∃ m : Nat, n1 = (m : Int) := ⟨n1.toNat, by omega⟩
  obtain ⟨m2, rfl⟩ : ∃ m : Nat, n2 = (m : Int) := ⟨n2.toNat, by omega⟩
  have l1 : m1 < Y.length := by omega
  have l2 : m2 < Y.length := by omega
  have f1 := hform Y[m1] (List.getElem_mem l1)
  have f2 := hform Y[m2] (List.getElem_mem l2)
  have r1 : rd_T54 Y (m1 : Int) = Y[m1] := rd_E l1
  have r2 : rd_T54 Y (m2 : Int) = Y[m2] := rd_E l2
  have E1 : life_Encode.f Y[m1].f0 Y[m1].f1 Y[m1].f2 = some (PutInt.bs (encL (toEv Y[m1])), 0) := encode_is f1
  have E2 : life_Encode.f Y[m2].f0 Y[m2].f1 Y[m2].f2 = some (PutInt.bs (encL (toEv Y[m2])), 0) := encode_is f2
  have g1 := encL_len f1
  have g2 := encL_len f2
  have D1 : life_Decode.f (PutInt.bs (encL (toEv Y[m1]))) = some (Y[m1].f0, Y[m1].f1, Y[m1].f2, 0) := by
    rw [decode_is (by rw [bs_sz]; omega)]
    rw [show (PutInt.bs (encL (toEv Y[m1]))).data.toList = encL (toEv Y[m1]) from rfl, dec_enc f1]
    rfl
  have hpre : ∀ q r : List UInt8, encL (toEv Y[m1]) ++ q = encL (toEv Y[m2]) ++ r → toEv Y[m1] = toEv Y[m2] := fun q r h => enc_pre f1 f2 h
  have heq : toEv Y[m1] = toEv Y[m2] ↔ (Y[m1].f0 = Y[m2].f0 ∧ Y[m1].f1 = Y[m2].f1 ∧ Y[m1].f2 = Y[m2].f2) := by simp [toEv]
  have henc : encL (toEv Y[m1]) = encL (toEv Y[m2]) ↔ (Y[m1].f0 = Y[m2].f0 ∧ Y[m1].f1 = Y[m2].f1 ∧ Y[m1].f2 = Y[m2].f2) := by
    rw [← heq]
    exact ⟨fun h => hpre [] [] (by rw [h]), fun h => by rw [h]⟩
  generalize hl1 : encL (toEv Y[m1]) = e1 at *
  generalize hl2 : encL (toEv Y[m2]) = e2 at *
  have hz : (((PutInt.bs e1).size : Int) == 0) = false := by rw [bs_sz, beq_eq_false_iff_ne]; omega
  obtain ⟨K2, hK2⟩ := decodes_j1 s at_ c hat (PutInt.bs e1) (by rw [bs_sz]; omega) (by rw [bs_sz]; omega)
  have hj0 : ∀ k, K2 ≤ k → dialtonelaw14_LifeDecodes.j0 (k + 1) s at_ c (PutInt.bs e1) (PutInt.bs e2) false = some true := by
    intro k hk
    have q := hK2 k hk
    simp only [dialtonelaw14_LifeDecodes.j0]
    rw [if_neg (by decide), bs_list, bs_list, bs_sz, bs_sz]
    by_cases hee : e1 = e2
    · rw [if_pos hee]; exact q
    · rw [if_neg hee]
      have n1 : e1.length ≤ e2.length → ¬ ((PutInt.bs e2).extract 0 e1.length).toList = e1 := by
        intro hle h
        rw [ByteArray.toList_eq, ByteArray.data_extract] at h
        simp only [PutInt.bs, Array.toList_extract, List.extract_eq_take_drop, List.drop_zero, Nat.sub_zero, Int.toNat_natCast] at h
        have h' : e2.take e1.length = e1 := h
        have := hpre (e2.drop e1.length) [] (by rw [List.append_nil]; conv => lhs; rw [← h']; rw [List.length_take]
                                                rw [show min e1.length e2.length = e1.length by omega, List.take_append_drop])
        exact hee (henc.2 (heq.1 this))
      have n2 : e2.length ≤ e1.length → ¬ ((PutInt.bs e1).extract 0 e2.length).toList = e2 := by
        intro hle h
        rw [ByteArray.toList_eq, ByteArray.data_extract] at h
        simp only [PutInt.bs, Array.toList_extract, List.extract_eq_take_drop, List.drop_zero, Nat.sub_zero, Int.toNat_natCast] at h
        have h' : e1.take e2.length = e2 := h
        have := hpre [] (e1.drop e2.length) (by rw [List.append_nil]; conv => rhs; rw [← h']; rw [List.length_take]
                                                rw [show min e2.length e1.length = e2.length by omega, List.take_append_drop])
        exact hee (henc.2 (heq.1 this))
      have hb2 : e2.length ≤ e1.length → (((PutInt.bs e1).extract 0 e2.length).toList == e2) = false := fun h => by rw [beq_eq_false_iff_ne]; exact n2 h
      by_cases h1 : (e1.length : Int) ≤ (e2.length : Int)
      · rw [if_pos h1, if_pos (by omega), if_neg (n1 (by omega))]
        by_cases h2 : (e2.length : Int) ≤ (e1.length : Int)
        · rw [if_pos h2, if_pos (by omega), hb2 (by omega)]; exact q
        · rw [if_neg h2]; exact q
      · rw [if_neg h1]
        by_cases h2 : (e2.length : Int) ≤ (e1.length : Int)
        · rw [if_pos h2, if_pos (by omega), hb2 (by omega)]; exact q
        · rw [if_neg h2]; exact q
  refine ⟨K1 + K2 + 1, ?_⟩
  unfold dialtonelaw14_LifeDecodes.f dialtonelaw14_sane.f
  simp only [Option.bind_some, if_true]
  rw [show dialtoneref14_Made.f (K1 + K2 + 1) X = some L from hK1 _ (by omega)]
  simp only [Option.bind_some]
  rw [hpa]
  simp only [Option.bind_some]
  rw [if_pos (by omega), hY]
  rw [hp1]
  simp only [Option.bind_some]
  rw [if_pos hq1.1, if_pos hq1.2, hp2]
  simp only [Option.bind_some]
  rw [if_pos hq2.1, if_pos hq2.2, r1, r2, E1, E2]
  simp only [Option.bind_some]
  rw [D1]
  simp only [Option.bind_some, if_true]
  have hsame : (!(Y[m1].f0 == Y[m1].f0) || (!(Y[m1].f1 == Y[m1].f1) || (!(Y[m1].f2 == Y[m1].f2)))) = false := by simp
  rw [hsame, if_neg (by decide), bs_list, bs_list, hz]
  by_cases hee : e1 = e2
  · rw [if_pos hee]
    have h3 := henc.1 hee
    have hb : (Y[m1].f0 == Y[m2].f0 && (Y[m1].f1 == Y[m2].f1 && (Y[m1].f2 == Y[m2].f2))) = true := by simp [h3]
    rw [hb, if_pos rfl]
    exact hj0 (K1 + K2) (by omega)
  · rw [if_neg hee]
    have hb : (Y[m1].f0 == Y[m2].f0 && (Y[m1].f1 == Y[m2].f1 && (Y[m1].f2 == Y[m2].f2))) = false := by
      rcases hbb : (Y[m1].f0 == Y[m2].f0 && (Y[m1].f1 == Y[m2].f1 && (Y[m1].f2 == Y[m2].f2))) with _ | _
      · rfl
      · simp only [Bool.and_eq_true, beq_iff_eq] at hbb
        exact absurd (henc.2 hbb) hee
    rw [hb, if_neg (by decide)]
    exact hj0 (K1 + K2) (by omega)
end Go.Proofs.Yteilkigdlkeiaaa.Q
