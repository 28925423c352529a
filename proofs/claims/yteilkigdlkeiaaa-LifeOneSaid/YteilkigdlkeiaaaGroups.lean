/- wire.groups: the iterator over the 7-bit groups of a number, by its contract. -/
import Derived.Test.YteilkigdlkeiaaaProg
import Derived.Test.YteilkigdlkeiaaaRf
import Derived.Laws.BitsAllLaws
import Derived.Lib.Hide
namespace Go.Proofs.Yteilkigdlkeiaaa.Groups
set_option linter.unusedVariables false
set_option linter.unusedSimpArgs false
open Go Go.RowKit
attribute [local go_sem] Oper.semAt_some
theorem wide_depth : Fence.wide.depth = none := rfl
attribute [local go_sem] wide_depth

/-- the groups of z, the least one first; is it the last one -/
def grp (z : Nat) : List (Nat × Bool) :=
  if h : z < 128 then [(z, true)] else (z % 128, false) :: grp (z / 128)
  termination_by z
  decreasing_by omega

theorem grp_lt {z : Nat} (h : z < 128) : grp z = [(z, true)] := by rw [grp]; simp [h]
theorem grp_ge {z : Nat} (h : ¬ z < 128) : grp z = (z % 128, false) :: grp (z / 128) := by rw [grp]; simp [h]

abbrev encs (x : Nat × Bool) : Array Value := #[.int .u8 x.1, .bool x.2]

def Nx (z : Nat) (pre : List (Nat × Bool)) (x : Nat × Bool) : Prop := pre ++ [x] <+: grp z
def Ab (B : Nat) (W W' : World) : Prop := ∃ v, W' = W.setCell ⟨B, 0, none⟩ v
def Kp (B : Nat) (W W' : World) : Prop := W'.heap[B]? = W.heap[B]?

theorem kp_cell {B : Nat} {W W' : World} (h : Kp B W W') (o : Nat) : W'.cell? ⟨B, o, none⟩ = W.cell? ⟨B, o, none⟩ := World.cell?_of_block h
theorem kp_frozen {B : Nat} {W W' : World} (h : Kp B W W') (o : Nat) : W'.frozen? ⟨B, o, none⟩ = W.frozen? ⟨B, o, none⟩ := World.frozen?_of_block h

/-- a number that an uint64 holds -/
def U64 (y : Nat) : Prop := y < 18446744073709551616

theorem and127 (y : Nat) (h : U64 y) : bits BinOp.and IntKind.u64 (y : Int) 127 % 256 = ((y % 128 : Nat) : Int) := by
  have := u64_and_nat y 127 h (by decide)
  rw [show ((127 : Nat) : Int) = 127 from rfl] at this
  rw [this, show y &&& 127 = y % 128 from Nat.and_two_pow_sub_one_eq_mod y 7]
  omega

theorem groups1 (l Bz z : Nat) (W : World) (hz : U64 z) (hc : W.cell? ⟨Bz, 0, none⟩ = some (.int .u64 z)) (hf : W.frozen? ⟨Bz, 0, none⟩ = false) :
    Rf.Iter Try.prog 61 #[.pointer (some ⟨Bz, 0, none⟩)] encs (Ab Bz) (Kp Bz) (Nx z) (fun xs => xs = grp z) (fun pre => pre <+: grp z) l W := by
  intro J Jx hJ hJx hY h0
  refine callsIn_of_wp Try.func61 rfl trivial ?_ rfl
  simp only [Try.ntmps61, List.size_toArray, List.length_cons, List.length_nil, Nat.reduceAdd, Nat.reduceSub, Array.replicate_succ, Array.replicate_zero, List.push_toArray, List.append_toArray, List.nil_append, List.cons_append]
  gi_wp2
  gi_loopw [3] (fun _ wr => ∃ (pre : List (Nat × Bool)) (y : Nat), U64 y ∧ grp z = pre ++ grp y ∧ wr.cell? ⟨Bz, 0, none⟩ = some (.int .u64 y) ∧ wr.frozen? ⟨Bz, 0, none⟩ = false ∧ J pre wr)
    (fun _ wr => (intOf ((wr.cell? ⟨Bz, 0, none⟩).getD undef)).toNat)
  case atStart => exact ⟨[], z, hz, rfl, hc, hf, h0⟩
  case round =>
    obtain ⟨pre, y, hy, hg, hcy, hfy, hj⟩ := hrel
    have ha := and127 y hy
    have Hg := Lib.hid hg
    by_cases hlt : y < 128
    · obtain ⟨fn, tmps, assign, body, hyd, hR⟩ := hY pre (y, true) wr (by rw [Nx, hg, grp_lt hlt]; exact List.prefix_refl _) hj
      dsimp only [encs] at hyd
      rw [Nat.mod_eq_of_lt hlt] at ha
      have hd : decide ((y : Int) < 128) = true := decide_eq_true (by omega)
      clear hg
      gi_wp2
      refine hR.mono ?_
      rintro e W3 (⟨rfl, hJ3, hk3⟩ | ⟨rfl, hJx3⟩)
      · gi_wp2
        refine bodyPost_ret (results_none rfl _ _ _) rfl ?_
        exact ⟨⟨_, rfl⟩, .inl ⟨pre ++ [(y, true)], by rw [Hg.out, grp_lt hlt], hJ3⟩⟩
      · gi_wp2
        refine bodyPost_ret (results_none rfl _ _ _) rfl ?_
        exact ⟨⟨_, rfl⟩, .inr ⟨pre ++ [(y, true)], by rw [Hg.out, grp_lt hlt]; exact List.prefix_refl _, hJx3⟩⟩
    · obtain ⟨m, hm⟩ : ∃ m, y % 128 = m := ⟨_, rfl⟩
      rw [hm] at ha
      have Hm := Lib.hid hm
      have hg2 : grp z = pre ++ ((m, false) :: grp (y / 128)) := by rw [hg, grp_ge hlt, hm]
      have Hg2 := Lib.hid hg2
      obtain ⟨fn, tmps, assign, body, hyd, hR⟩ := hY pre (m, false) wr (by rw [Nx, hg2]; exact ⟨grp (y / 128), by simp⟩) hj
      clear hm hg2
      dsimp only [encs] at hyd
      have hd : decide ((y : Int) < 128) = false := decide_eq_false (by omega)
      clear hg
      gi_wp2
      refine hR.mono ?_
      rintro e W3 (⟨rfl, hJ3, hk3⟩ | ⟨rfl, hJx3⟩)
      · have hc3 : W3.cell? ⟨Bz, 0, none⟩ = some (.int .u64 y) := (kp_cell hk3 0).trans hcy
        have hf3 : W3.frozen? ⟨Bz, 0, none⟩ = false := (kp_frozen hk3 0).trans hfy
        have hs : (W3.setCell ⟨Bz, 0, none⟩ (.int .u64 ((y : Int) / 128))).cell? ⟨Bz, 0, none⟩ = some (.int .u64 ((y : Int) / 128)) :=
          World.cell?_setCell_same' _ _ _ (by rw [hc3]; rfl)
        have Hs := Lib.hid hs
        clear hs
        gi_wp2
        go_roundw
        case rel =>
          refine ⟨pre ++ [(m, false)], y / 128, ?_, by rw [Hg2.out]; simp, ?_, ?_, hJ _ _ _ hJ3 ⟨_, rfl⟩⟩
          · unfold U64 at *; omega
          · rw [Hs.out]; rfl
          · rw [World.frozen?_setCell]; exact hf3
        case measure =>
          rw [Hs.out, hcy]; simp [intOf]; omega
      · gi_wp2
        refine bodyPost_ret (results_none rfl _ _ _) rfl ?_
        exact ⟨⟨_, rfl⟩, .inr ⟨pre ++ [(m, false)], by rw [Hg2.out]; exact ⟨grp (y / 128), by simp⟩, hJx3⟩⟩

end Go.Proofs.Yteilkigdlkeiaaa.Groups
