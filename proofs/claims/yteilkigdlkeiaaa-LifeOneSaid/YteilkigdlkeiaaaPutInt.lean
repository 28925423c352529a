/- wire.PutInt, by its contract: what it returns, and that nothing that was there is changed. -/
import Derived.Test.YteilkigdlkeiaaaGroups
import Derived.Test.YteilkigdlkeiaaaLeb
import Derived.RangeFuncBox
import Derived.Maps.AppendAt
import Derived.Laws.BytesArg
namespace Go.Proofs.Yteilkigdlkeiaaa.PutInt
set_option linter.unusedVariables false
set_option linter.unusedSimpArgs false
open Go Go.RowKit Go.Proofs.Yteilkigdlkeiaaa.Groups
open Go.Proofs.Yteilkigdlkeiaaa.Leb (zig leb leb_lt leb_ge putL InRange)
attribute [local go_sem] Oper.semAt_some wide_depth

theorem groups_in (F : Fence) (hF : F = Fence.wide) (z : Nat) (w : World) :
    CallsIn F 0 Try.prog 60 #[.int .u64 z] w fun e w' => e = .returned (.func (.func 61) #[] #[.pointer (some ⟨w.heap.size, 0, none⟩)]) ∧ w' = w.alloc (.cells #[.int .u64 z] 96) := by
  subst hF
  refine callsIn_of_wp Try.func60 rfl trivial ?_ rfl
  simp only [Try.ntmps60, List.size_toArray, List.length_cons, List.length_nil, Nat.reduceAdd, Nat.reduceSub, Array.replicate_succ, Array.replicate_zero, List.push_toArray, List.append_toArray, List.nil_append, List.cons_append]
  gi_wp2
  go_ret
  exact ⟨rfl, rfl⟩

theorem info_u8 : (Try.prog.info? 5).map (fun i => (i.zero, i.size, i.bytes)) = some (some (.int .u8 0), 1, 1) := by kernel_rfl

/-- a byte of the encoding -/
def enc1 (x : Nat × Bool) : Nat := if x.2 then x.1 else x.1 + 128
def outV (pre : List (Nat × Bool)) : List Value := pre.map fun x => .int .u8 (enc1 x)

theorem xor_ones (a : Nat) (h : a < 18446744073709551616) : a ^^^ 18446744073709551615 = 18446744073709551615 - a := by
  have h1 : (BitVec.ofNat 64 a ^^^ BitVec.allOnes 64).toNat = a ^^^ 18446744073709551615 := by
    rw [BitVec.toNat_xor, BitVec.toNat_allOnes, BitVec.toNat_ofNat, Nat.mod_eq_of_lt (by simpa using h)]
  have h2 : BitVec.ofNat 64 a ^^^ BitVec.allOnes 64 = ~~~ (BitVec.ofNat 64 a) := by
    rw [BitVec.not_def, BitVec.xor_comm]
  rw [← h1, h2, BitVec.toNat_not, BitVec.toNat_ofNat, Nat.mod_eq_of_lt (by simpa using h)]

theorem zig_bits (n : Int) (h1 : -4611686018427387903 ≤ n) (h2 : n ≤ 4611686018427387903) :
    bits BinOp.xor IntKind.u64 (IntKind.u64.wrap (IntKind.u64.wrap n * 2)) (IntKind.u64.wrap (n / 9223372036854775808)) = (zig n : Int) ∧ U64 (zig n) := by
  simp only [IntKind.wrap_u64]
  by_cases hn : n < 0
  · have e1 : (n % 18446744073709551616 * 2) % 18446744073709551616 = ((18446744073709551616 + 2 * n).toNat : Int) := by omega
    have e2 : (n / 9223372036854775808) % 18446744073709551616 = ((18446744073709551615 : Nat) : Int) := by omega
    rw [e1, e2, u64_xor_nat _ _ (by omega) (by decide), xor_ones _ (by omega), zig, if_pos hn]
    exact ⟨by omega, by unfold U64; omega⟩
  · have e1 : (n % 18446744073709551616 * 2) % 18446744073709551616 = ((2 * n).toNat : Int) := by omega
    have e2 : (n / 9223372036854775808) % 18446744073709551616 = ((0 : Nat) : Int) := by omega
    rw [e1, e2, u64_xor_nat _ _ (by omega) (by decide), Nat.xor_zero, zig, if_neg hn]
    exact ⟨rfl, by unfold U64; omega⟩

theorem outV_snoc (pre : List (Nat × Bool)) (x : Nat × Bool) : outV (pre ++ [x]) = outV pre ++ [.int .u8 (enc1 x)] := by simp [outV]

theorem grp_len : ∀ (f z : Nat), z < 128 ^ (f + 1) → (grp z).length ≤ f + 1
  | 0, z, h => by rw [grp_lt (by simpa using h)]; simp
  | f + 1, z, h => by
    by_cases hz : z < 128
    · rw [grp_lt hz]; simp
    · rw [grp_ge hz]
      have := grp_len f (z / 128) (by rw [Nat.pow_succ] at h; omega)
      simp; omega

theorem pow128 : (128 : Nat) ^ (9 + 1) = 1180591620717411303424 := by decide
theorem grp_small {z : Nat} (h : U64 z) : (grp z).length ≤ 10 := grp_len 9 z (by rw [pow128]; unfold U64 at h; omega)
theorem grp_next {z : Nat} {pre : List (Nat × Bool)} {x : Nat × Bool} (h : Nx z pre x) : x.1 < 128 := by
  have : ∀ (m z : Nat), z ≤ m → ∀ y ∈ grp z, y.1 < 128 := by
    intro m
    induction m with
    | zero => intro z hz y hy; rw [grp_lt (by omega)] at hy; simp at hy; subst hy; show z < 128; omega
    | succ m ih =>
      intro z hz y hy
      by_cases hl : z < 128
      · rw [grp_lt hl] at hy; simp at hy; subst hy; exact hl
      · rw [grp_ge hl] at hy
        rcases List.mem_cons.1 hy with rfl | hy
        · show z % 128 < 128; omega
        · exact ih (z / 128) (by omega) y hy
  exact this z z (Nat.le_refl _) x (h.subset (by simp))

theorem or128 (g : Nat) (h : g < 128) : bits BinOp.or IntKind.u8 (g : Int) 128 = ((g + 128 : Nat) : Int) := by
  have := u8_or_nat g 128 (by omega) (by decide)
  rw [show ((128 : Nat) : Int) = 128 from rfl] at this
  rw [this]
  have e : g ||| 128 = g + 128 := by
    have := Nat.two_pow_add_eq_or_of_lt (i := 7) (b := g) (by omega) 1
    rw [show 2 ^ 7 * 1 = 128 from rfl] at this
    rw [Nat.or_comm]; omega
  rw [e]

set_option maxRecDepth 100000 in
set_option maxHeartbeats 2000000 in
theorem good (n : Int) (w : World) (h1 : -4611686018427387903 ≤ n) (h2 : n ≤ 4611686018427387903) :
    Calls Try.prog 59 #[.int .i64 n] w fun e w' => ∃ s : ByteArray, e = .returned (.tuple #[.string s, .int .i64 0]) ∧ s.data.toList = (grp (zig n)).map (fun x => UInt8.ofNat (enc1 x)) ∧ Below w.heap.size w w' := by
  obtain ⟨hz, hu⟩ := zig_bits n h1 h2
  obtain ⟨i0, hi, hz0, hz1, hz2⟩ := info_parts info_u8
  refine callsIn_wide (n := 0) |>.1 ?_
  refine callsIn_of_wp_marks Try.func59 rfl trivial ?_ rfl
  simp only [Try.ntmps59, List.size_toArray, List.length_cons, List.length_nil, Nat.reduceAdd, Nat.reduceSub, Array.replicate_succ, Array.replicate_zero, List.push_toArray, List.append_toArray, List.nil_append, List.cons_append]
  have t1 : decide (n < -4611686018427387903) = false := decide_eq_false (by omega)
  have t2 : decide (4611686018427387903 < n) = false := decide_eq_false (by omega)
  have Hz := Lib.hid hz
  clear hz
  gi_wp2_with fail
  rw [Hz.out]
  clear Hz t1 t2
  generalize IntKind.u64.wrap (IntKind.u64.wrap n * 2) = v15
  generalize IntKind.u64.wrap n = v14
  generalize IntKind.u64.wrap (n / 9223372036854775808) = v18
  generalize n / 9223372036854775808 = v17
  generalize hzz : zig n = z at hu ⊢
  have Hzz := Lib.hid hzz
  clear hzz
  refine ⟨trivial, (groups_in _ rfl z _).mono ?_⟩
  rintro e w' ⟨rfl, rfl⟩
  gi_wp2_with fail
  have bO := Boxed.new w 69 (.slice none 0 0)
  have bN := Boxed.new (w.alloc (.cells #[.slice none 0 0] 69)) 96 (.int .u64 z)
  rw [World.size_alloc] at bN
  have hB0 : Below w.heap.size w ((w.alloc (.cells #[.slice none 0 0] 69)).alloc (.cells #[.int .u64 z] 96)) := ((Below.refl _ w).alloc (Nat.le_refl _) _).alloc (by simp) _
  refine Rf.law (gf := 61) (lb := #[.pointer (some ⟨w.heap.size + 1, 0, none⟩)]) rfl (enters_of Try.func61 (by kernel_rfl) rfl)
    (encs := encs) (Ab := Ab (w.heap.size + 1)) (Kp := Kp (w.heap.size + 1)) (Nx := Nx z) (S := fun xs => xs = grp z) (Sp := fun pre => pre <+: grp z)
    (fun l W1 _ hb _ => groups1 l (w.heap.size + 1) z W1 hu ((hb.cell (p := ⟨w.heap.size + 1, 0, none⟩) (by simp)).trans bN.cell) ((hb.frozen (p := ⟨w.heap.size + 1, 0, none⟩) (by simp)).trans bN.frozen))
    ?hAb (fun h k => k.trans h) ?hKb (fun _ => rfl)
    (fun pre W => ((∃ v, Boxed W w.heap.size 69 v ∧ W.ownsRow w.heap.size 5 1 v pre.length (outV pre) ∧ (v = .slice none 0 0 ↔ pre = [])) ∧ ∃ zv, Boxed W (w.heap.size + 1) 96 zv) ∧ Below w.heap.size w W)
    (fun _ _ _ => False) ?hIa (fun _ _ _ _ h _ => h) ?hI (fun _ => ⟨fun _ _ _ h => h, fun _ _ _ _ _ h _ _ _ => h⟩) ?h0
    (fun x => { tmps := #[.int .i64 n, undef, .string ⟨#[]⟩, .int .i64 0, .pointer (some ⟨w.heap.size, 0, none⟩), .int .u8 x.1, .bool x.2, .int .i64 n, .bool false, .bool false, .int .i64 n, .bool false, .bool false, .int .i64 n, .int .u64 v14, .int .u64 v15, .int .i64 n, .int .i64 v17, .int .u64 v18, .int .u64 z, .func (.func 61) #[] #[.pointer (some ⟨w.heap.size + 1, 0, none⟩)], .int .u8 x.1, .bool x.2, undef, undef, undef, undef, undef, undef, undef, undef, undef, undef], defers := [] }) ?assign ?body ?done ?stop
  case hAb =>
    rintro A B ⟨v, rfl⟩ k o hk ho hc
    exact (KeepsOthers.setCell A _ v).same k o ho hc
  case hKb =>
    intro W l o o' hl ho hc
    refine World.putObj_heap_other ?_
    simp at hl; omega
  case hIa =>
    rintro pre A B ⟨⟨⟨v, hv, hr, hn⟩, zv, hzv⟩, hb⟩ ⟨u, rfl⟩
    refine ⟨⟨⟨v, hv.other (by omega) _, hr.kept (grownBy_setCell' A _ _) (.inr (hzv.not_row (by decide) hr).symm), hn⟩, _, hzv.set u⟩, hb.setCell (p := ⟨w.heap.size + 1, 0, none⟩) (by show w.heap.size ≤ w.heap.size + 1; omega) u⟩
  case hI =>
    refine Rf.Books.of_ownFrom (OwnFrom.and (OwnFrom.and (Own.from (holdsRow_own w.heap.size w.heap.size 69 5 1 (fun pre => pre.length) (fun pre => outV pre) (fun pre v => v = .slice none 0 0 ↔ pre = [])) _) ?_) (ownFrom_below (Nat.le_refl _) (by simp; omega)))
    rintro s A B row ⟨zv, hzv⟩ hg hrow
    exact ⟨zv, hzv.kept hg fun e => by obtain ⟨_, o, ho, hc⟩ := hrow _ e.symm; rw [show A.heap[_]? = _ from hzv] at ho; cases ho; cases hc⟩
  case h0 =>
    exact ⟨⟨⟨_, bO.alloc _, World.ownsRow_nil _ _ _ _, by simp⟩, _, bN⟩, hB0⟩
  case assign =>
    intro l x W K hK
    gi_wp2
    exact hK
  case body =>
    rintro l pre x W hnx ⟨⟨⟨v, hv, hrow, hnil⟩, zv, hzv⟩, hB⟩
    have hlen : pre.length + 1 ≤ 10 := by
      have h1 := hnx.length_le
      have h2 := grp_small hu
      simp at h1; omega
    have hlt := grp_next hnx
    clear hnx
    obtain ⟨g, last⟩ := x
    have hvc := hv.cell
    cases last
    · have ho := or128 g hlt
      gi_wp2_with (gi_at_builtin; refine wpListIn_append_own _ rfl _ _ 69 rfl w.heap.size 5 i0 (.int .u8 0) 1 1 Try.underlying69 hi hz0 hz1 hz2 rfl (by decide) _ _ _ rfl (hrow.alloc _) ⟨W.heap.size, 0, none⟩ 1 1 [.int .u8 ((g : Int) + 128)] rfl rfl (cell_one_new _ _ _) (by simp [Value.oneCell']) (by unfold maxLen; omega) (by omega) (by have := hB.size; simp; omega) ?_; intro v' w1 hown' hgrow _; obtain ⟨g', cap', rfl⟩ := ownsRow_succ hown'; obtain ⟨hv1, hv2, hr2, hk2, hb2⟩ := hv.appended (by decide) hrow hB.size (Nat.le_refl _) hown' hgrow; have hc1 := hv1.cell; have hf1 := hv1.frozen)
      have hzw : Boxed w1 (w.heap.size + 1) 96 zv := (hzv.alloc _).kept hgrow (hzv.not_row (by decide) hrow)
      refine ⟨hk2, ?_, ⟨⟨_, hv2, by rw [outV_snoc]; simpa [enc1] using hr2, by simp⟩, zv, hzw.other (by omega) _⟩, hB.trans hb2⟩
      exact (show _ = _ from hzw.other (by omega) _).trans (show _ = _ from hzv).symm
    · gi_wp2_with (gi_at_builtin; refine wpListIn_append_own _ rfl _ _ 69 rfl w.heap.size 5 i0 (.int .u8 0) 1 1 Try.underlying69 hi hz0 hz1 hz2 rfl (by decide) _ _ _ rfl (hrow.alloc _) ⟨W.heap.size, 0, none⟩ 1 1 [.int .u8 (g : Int)] rfl rfl (cell_one_new _ _ _) (by simp [Value.oneCell']) (by unfold maxLen; omega) (by omega) (by have := hB.size; simp; omega) ?_; intro v' w1 hown' hgrow _; obtain ⟨g', cap', rfl⟩ := ownsRow_succ hown'; obtain ⟨hv1, hv2, hr2, hk2, hb2⟩ := hv.appended (by decide) hrow hB.size (Nat.le_refl _) hown' hgrow; have hc1 := hv1.cell; have hf1 := hv1.frozen)
      have hzw : Boxed w1 (w.heap.size + 1) 96 zv := (hzv.alloc _).kept hgrow (hzv.not_row (by decide) hrow)
      refine ⟨hk2, ?_, ⟨⟨_, hv2, by rw [outV_snoc]; simpa [enc1] using hr2, by simp⟩, zv, hzw.other (by omega) _⟩, hB.trans hb2⟩
      exact (show _ = _ from hzw.other (by omega) _).trans (show _ = _ from hzv).symm
  case done =>
    rintro D ys W hD rfl ⟨⟨⟨v, hv, hrow, hnil⟩, zv, hzv⟩, hB⟩ hK
    have hc := hv.cell
    have hne : grp z ≠ [] := by rw [grp]; split <;> simp
    obtain ⟨m, hm⟩ : ∃ m, (grp z).length = m + 1 := ⟨(grp z).length - 1, by have := List.length_pos_iff.2 hne; omega⟩
    rw [hm] at hrow
    obtain ⟨g, cap, rfl⟩ := ownsRow_succ hrow
    have kc := run_convert_bytes_arg (P := Try.prog) W 69 5 Try.underlying69 Try.underlying5 g 0 (m + 1) cap ((grp z).map fun x => ((enc1 x : Nat) : Int)) (by simpa using hm) (fun i hi => by
      have hlt : i < (grp z).length := by omega
      rw [Nat.zero_add, hrow.cellAt i (by omega)]
      simp [outV, List.getD, List.getElem?_eq_getElem hlt]) 9 Try.underlying9
    clear hm
    gi_wp2
    refine ⟨by simp, .inl ⟨_, _, rfl, run_takeDeferred hK, ?_⟩⟩
    refine ⟨.tuple #[.string (strOfNums ((grp z).map fun x => ((enc1 x : Nat) : Int))), .int .i64 0], by simp [results, Try.f59, go_sem], _, rfl, ?_, hB.trans (belowK_b (w := w) (Nat.le_refl _) W D _ _ (by simp at hD; omega) hK rfl rfl)⟩
    rw [strOfNums_data, Hzz.out, List.map_map]
    rfl
  case stop =>
    rintro D c pre W _ _ h _
    exact h.elim

set_option maxHeartbeats 1000000 in
theorem bad (n : Int) (w : World) (h : n < -4611686018427387903 ∨ 4611686018427387903 < n) :
    Calls Try.prog 59 #[.int .i64 n] w fun e w' => e = .returned (.tuple #[.string ByteArray.empty, .int .i64 10]) ∧ Below w.heap.size w w' := by
  by_cases h1 : n < -4611686018427387903
  · have t1 : decide (n < -4611686018427387903) = true := decide_eq_true h1
    go_enter Try.func59, Try.ntmps59
    go_wp2
    go_ret2
    exact ⟨rfl, Below.refl _ _⟩
  · have t1 : decide (n < -4611686018427387903) = false := decide_eq_false h1
    have t2 : decide (4611686018427387903 < n) = true := decide_eq_true (by omega)
    clear h1 h
    go_enter Try.func59, Try.ntmps59
    go_wp2
    go_ret2
    exact ⟨rfl, Below.refl _ _⟩

/-- a string of bytes -/
def bs (l : List UInt8) : ByteArray := ⟨l.toArray⟩
theorem bs_data (l : List UInt8) : (bs l).data.toList = l := rfl
theorem bs_eq (s : ByteArray) : bs s.data.toList = s := by cases s; simp [bs]
theorem bs_size (l : List UInt8) : (bs l).size = l.length := by simp [bs, ByteArray.size]

theorem grp_leb : ∀ (m z : Nat), z ≤ m → (grp z).map (fun x => UInt8.ofNat (enc1 x)) = leb z
  | 0, z, h => by rw [grp_lt (by omega), leb_lt (by omega)]; simp [enc1]
  | m + 1, z, h => by
    by_cases hz : z < 128
    · rw [grp_lt hz, leb_lt hz]; simp [enc1]
    · rw [grp_ge hz, leb_ge hz, List.map_cons, grp_leb m (z / 128) (by omega)]; simp [enc1]

theorem any (n : Int) (w : World) :
    Calls Try.prog 59 #[.int .i64 n] w fun e w' => e = .returned (.tuple #[.string (bs (putL n).1), .int .i64 (putL n).2]) ∧ Below w.heap.size w w' := by
  by_cases h : InRange n
  · refine (good n w h.1 h.2).mono ?_
    rintro e w' ⟨s, rfl, hs, hb⟩
    rw [grp_leb _ _ (Nat.le_refl _)] at hs
    refine ⟨?_, hb⟩
    rw [putL, if_pos h, ← hs, bs_eq]
  · refine (bad n w (by unfold InRange at h; omega)).mono ?_
    rintro e w' ⟨rfl, hb⟩
    refine ⟨?_, hb⟩
    rw [putL, if_neg h]; rfl

end Go.Proofs.Yteilkigdlkeiaaa.PutInt
