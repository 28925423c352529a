/- The functions of life that are proved by hand, in the form of the printed contracts. -/
import Derived.Test.YteilkigdlkeiaaaQ0
import Derived.Test.YteilkigdlkeiaaaG8
import Derived.Test.YteilkigdlkeiaaaG9
import Derived.Test.YteilkigdlkeiaaaSaneL
import Derived.Test.YteilkigdlkeiaaaG3
namespace Go.Proofs.Yteilkigdlkeiaaa.Q
open Go.RowKit Go.Proofs.YteilkigdlkeiaaaW.PrintWords Go.Proofs.YteilkigdlkeiaaaW.PrintLast Go.Proofs.YteilkigdlkeiaaaW.PrintMore
set_option linter.unusedVariables false
set_option linter.unusedSimpArgs false
open Go Lf

abbrev SE := S54
abbrev SY := S62
def toEv (x : SE) : Ev := ⟨x.f0, x.f1, x.f2⟩
def ofSy (s : Sy) : SY := ⟨s.ho, s.ep, ⟨s.fr, s.tt⟩⟩

theorem evsIn_of {w : World} {A : Option Addr} {n : Nat} {l : List SE} (h : Kd.C k54 w A n l) : EvsIn w A (l.map toEv) := by
  intro k hk
  have hk' : k < l.length := by simpa using hk
  have hn : l.length = n := h.1
  obtain ⟨ad, e, h0, h1, h2⟩ := at_T54 h (k : Int) (by omega) (by omega)
  have e2 : rd_T54 l (k : Int) = l[k] := by
    unfold rd_T54
    simp [List.getD_eq_getElem?_getD, List.getElem?_eq_getElem hk']
  rw [e2, Int.toNat_natCast] at h0 h1 h2
  refine ⟨ad, e, ?_, ?_, ?_⟩ <;> simp only [List.getElem_map, toEv] <;> assumption

theorem reps_stays_app (w : World) (base : Nat) (ok : Nat → Prop) : ∀ (l : List Sy) (ps : List SY) (cs : List Value), Reps (k62.M w base ok) 4 ps cs → Reps (k62.M w base ok) 4 (ps ++ l.map ofSy) (cs ++ flatS l)
  | [], ps, cs, h => by simpa [flatS] using h
  | s :: l, ps, cs, h => by
    have := reps_stays_app w base ok l (ps ++ [ofSy s]) (cs ++ s.vs) (h.snoc (k62_mkM w base ok (ofSy s)) rfl)
    simpa [flatS, List.append_assoc] using this
theorem reps_stays (w : World) (base : Nat) (ok : Nat → Prop) (l : List Sy) : Reps (k62.M w base ok) 4 (l.map ofSy) (flatS l) := by
  have := reps_stays_app w base ok l [] [] (Reps.none _ _)
  simpa using this

theorem row_stays {w : World} {base : Nat} {v : Value} {l : List Sy} (h : stayRow w base v l) : Kd.R k62 62 w base (fun _ => True) v (l.map ofSy) := by
  refine ⟨fun _ _ => trivial, flatS l, ?_, reps_stays _ _ _ l⟩
  rw [List.length_map]
  exact h

def dialtonelaw14_sane.f : Option Bool := some true
theorem dialtonelaw14_sane.calls (r : Bool) (w : World) (h : dialtonelaw14_sane.f = some r) :
    Calls Try.prog 13 #[] w fun e w' => e = .returned (.bool r) ∧ Below w.heap.size w w' := by
  obtain rfl := Option.some.inj h
  exact sane_any w

def stepT (o : Option Ln) : Int × Int × Int × Int × Int := match o with
  | some l => (l.st, l.ho, l.ep, l.si, 0)
  | none => (0, 0, 0, 0, 140)
def life_Step.f (a0_0 a0_1 a0_2 a0_3 a1_0 a1_1 a1_2 : Int) : Option (Int × Int × Int × Int × Int) := some (stepT (Lf.step ⟨a0_0, a0_1, a0_2, a0_3⟩ ⟨a1_0, a1_1, a1_2⟩))
theorem life_Step.calls (a0_0 a0_1 a0_2 a0_3 a1_0 a1_1 a1_2 : Int) (r1 r2 r3 r4 r5 : Int) (w : World) (h : life_Step.f a0_0 a0_1 a0_2 a0_3 a1_0 a1_1 a1_2 = some (r1, r2, r3, r4, r5)) :
    Calls Try.prog 32 #[.agg #[.int .i64 a0_0, .int .i64 a0_1, .int .i64 a0_2, .int .i64 a0_3], .agg #[.int .i64 a1_0, .int .i64 a1_1, .int .i64 a1_2]] w fun e w' => e = .returned (.tuple #[.agg #[.int .i64 r1, .int .i64 r2, .int .i64 r3, .int .i64 r4], .int .i64 r5]) ∧ Below w.heap.size w w' := by
  have := step_any ⟨a0_0, a0_1, a0_2, a0_3⟩ ⟨a1_0, a1_1, a1_2⟩ w
  have h := Option.some.inj h
  rcases hs : Lf.step ⟨a0_0, a0_1, a0_2, a0_3⟩ ⟨a1_0, a1_1, a1_2⟩ with _ | l <;> rw [hs] at this h
  · cases h; exact this
  · cases h; exact this

def dialtoneref14_Step.f (a0_0 a0_1 a0_2 a0_3 a1_0 a1_1 a1_2 : Int) : Option (Int × Int × Int × Int × Int) := some (stepT (Lf.step ⟨a0_0, a0_1, a0_2, a0_3⟩ ⟨a1_0, a1_1, a1_2⟩))
theorem dialtoneref14_Step.calls (a0_0 a0_1 a0_2 a0_3 a1_0 a1_1 a1_2 : Int) (r1 r2 r3 r4 r5 : Int) (w : World) (h : dialtoneref14_Step.f a0_0 a0_1 a0_2 a0_3 a1_0 a1_1 a1_2 = some (r1, r2, r3, r4, r5)) :
    Calls Try.prog 33 #[.agg #[.int .i64 a0_0, .int .i64 a0_1, .int .i64 a0_2, .int .i64 a0_3], .agg #[.int .i64 a1_0, .int .i64 a1_1, .int .i64 a1_2]] w fun e w' => e = .returned (.tuple #[.agg #[.int .i64 r1, .int .i64 r2, .int .i64 r3, .int .i64 r4], .int .i64 r5]) ∧ Below w.heap.size w w' := by
  have := rstep_any ⟨a0_0, a0_1, a0_2, a0_3⟩ ⟨a1_0, a1_1, a1_2⟩ w
  have h := Option.some.inj h
  rcases hs : Lf.step ⟨a0_0, a0_1, a0_2, a0_3⟩ ⟨a1_0, a1_1, a1_2⟩ with _ | l <;> rw [hs] at this h
  · cases h; exact this
  · cases h; exact this

def life_Valid.f (a0_0 a0_1 a0_2 a0_3 : Int) : Option Bool := some (validB ⟨a0_0, a0_1, a0_2, a0_3⟩)
theorem life_Valid.calls (a0_0 a0_1 a0_2 a0_3 : Int) (r : Bool) (w : World) (h : life_Valid.f a0_0 a0_1 a0_2 a0_3 = some r) :
    Calls Try.prog 22 #[.agg #[.int .i64 a0_0, .int .i64 a0_1, .int .i64 a0_2, .int .i64 a0_3]] w fun e w' => e = .returned (.bool r) ∧ Below w.heap.size w w' := by
  obtain rfl := Option.some.inj h
  exact valid_any ⟨a0_0, a0_1, a0_2, a0_3⟩ w
def dialtoneref14_Valid.f (a0_0 a0_1 a0_2 a0_3 : Int) : Option Bool := some (validB ⟨a0_0, a0_1, a0_2, a0_3⟩)
theorem dialtoneref14_Valid.calls (a0_0 a0_1 a0_2 a0_3 : Int) (r : Bool) (w : World) (h : dialtoneref14_Valid.f a0_0 a0_1 a0_2 a0_3 = some r) :
    Calls Try.prog 23 #[.agg #[.int .i64 a0_0, .int .i64 a0_1, .int .i64 a0_2, .int .i64 a0_3]] w fun e w' => e = .returned (.bool r) ∧ Below w.heap.size w w' := by
  obtain rfl := Option.some.inj h
  exact rvalid_any ⟨a0_0, a0_1, a0_2, a0_3⟩ w
def life_Formed.f (a0_0 a0_1 a0_2 : Int) : Option Bool := some (formedB ⟨a0_0, a0_1, a0_2⟩)
theorem life_Formed.calls (a0_0 a0_1 a0_2 : Int) (r : Bool) (w : World) (h : life_Formed.f a0_0 a0_1 a0_2 = some r) :
    Calls Try.prog 34 #[.agg #[.int .i64 a0_0, .int .i64 a0_1, .int .i64 a0_2]] w fun e w' => e = .returned (.bool r) ∧ Below w.heap.size w w' := by
  obtain rfl := Option.some.inj h
  exact formed_any ⟨a0_0, a0_1, a0_2⟩ w
def dialtoneref14_Formed.f (a0_0 a0_1 a0_2 : Int) : Option Bool := some (formedB ⟨a0_0, a0_1, a0_2⟩)
theorem dialtoneref14_Formed.calls (a0_0 a0_1 a0_2 : Int) (r : Bool) (w : World) (h : dialtoneref14_Formed.f a0_0 a0_1 a0_2 = some r) :
    Calls Try.prog 35 #[.agg #[.int .i64 a0_0, .int .i64 a0_1, .int .i64 a0_2]] w fun e w' => e = .returned (.bool r) ∧ Below w.heap.size w w' := by
  obtain rfl := Option.some.inj h
  exact rformed_any ⟨a0_0, a0_1, a0_2⟩ w
def i64B (c : Int) : Bool := decide (-9223372036854775808 ≤ c) && decide (c ≤ 9223372036854775807)
theorem i64B_iff {c : Int} : i64B c = true ↔ I64 c := by simp [i64B, I64]
def evT (e : Ev) : Int × Int × Int := (e.k, e.a, e.h)
def dialtoneref14_After.f (a0_0 a0_1 a0_2 a0_3 a1_0 a1_1 a1_2 : Int) : Option (Int × Int × Int) :=
  if (validB ⟨a0_0, a0_1, a0_2, a0_3⟩ && (i64B a1_0 && (i64B a1_1 && i64B a1_2))) = true then some (evT (afterE ⟨a0_0, a0_1, a0_2, a0_3⟩ ⟨a1_0, a1_1, a1_2⟩)) else none
theorem dialtoneref14_After.calls (a0_0 a0_1 a0_2 a0_3 a1_0 a1_1 a1_2 : Int) (r1 r2 r3 : Int) (w : World) (h : dialtoneref14_After.f a0_0 a0_1 a0_2 a0_3 a1_0 a1_1 a1_2 = some (r1, r2, r3)) :
    Calls Try.prog 40 #[.agg #[.int .i64 a0_0, .int .i64 a0_1, .int .i64 a0_2, .int .i64 a0_3], .agg #[.int .i64 a1_0, .int .i64 a1_1, .int .i64 a1_2]] w fun e w' => e = .returned (.agg #[.int .i64 r1, .int .i64 r2, .int .i64 r3]) ∧ Below w.heap.size w w' := by
  unfold dialtoneref14_After.f at h
  split at h
  · rename_i hc
    simp only [Bool.and_eq_true, i64B_iff] at hc
    have := rafter_ev ⟨a0_0, a0_1, a0_2, a0_3⟩ ⟨a1_0, a1_1, a1_2⟩ w hc.1 hc.2.1 hc.2.2.1 hc.2.2.2
    have h := Option.some.inj h
    simp only [evT, Prod.mk.injEq] at h
    obtain ⟨rfl, rfl, rfl⟩ := h
    exact this
  · cases h

def life_Run.f (l0 : List SE) : Option (Int × Int × Int × Int × Int × Int) :=
  if l0.length ≤ 140737488351232 then some ((runV (l0.map toEv)).1.st, (runV (l0.map toEv)).1.ho, (runV (l0.map toEv)).1.ep, (runV (l0.map toEv)).1.si, (runV (l0.map toEv)).2.1, (runV (l0.map toEv)).2.2) else none
theorem life_Run.calls (A0 : Option Addr) (c0 : Nat) (l0 : List SE) (r1 r2 r3 r4 r5 r6 : Int) (w : World) (hr0 : Kd.C k54 w A0 l0.length l0) (hc0 : l0.length ≤ c0) (h : life_Run.f l0 = some (r1, r2, r3, r4, r5, r6)) :
    Calls Try.prog 17 #[.slice A0 l0.length c0] w fun e w' => e = .returned (.tuple #[.agg #[.int .i64 r1, .int .i64 r2, .int .i64 r3, .int .i64 r4], .int .i64 r5, .int .i64 r6]) ∧ Below w.heap.size w w' := by
  unfold life_Run.f at h
  split at h
  · rename_i hl
    have := run_any A0 l0.length c0 (l0.map toEv) (by simp) hl hc0 w (evsIn_of hr0)
    simp only [Option.some.injEq, Prod.mk.injEq] at h
    obtain ⟨rfl, rfl, rfl, rfl, rfl, rfl⟩ := h
    exact this
  · cases h

def life_At.f (l0 : List SE) (a1 : Int) : Option (Int × Int × Int × Int × Int) := if l0.length ≤ 140737488351232 then some (stepT (atV (l0.map toEv) a1)) else none
theorem life_At.calls (A0 : Option Addr) (c0 : Nat) (l0 : List SE) (a1 : Int) (r1 r2 r3 r4 r5 : Int) (w : World) (hr0 : Kd.C k54 w A0 l0.length l0) (hc0 : l0.length ≤ c0) (h : life_At.f l0 a1 = some (r1, r2, r3, r4, r5)) :
    Calls Try.prog 25 #[.slice A0 l0.length c0, .int .i64 a1] w fun e w' => e = .returned (.tuple #[.agg #[.int .i64 r1, .int .i64 r2, .int .i64 r3, .int .i64 r4], .int .i64 r5]) ∧ Below w.heap.size w w' := by
  unfold life_At.f at h
  split at h
  · rename_i hl
    have := atGet_any A0 l0.length c0 (l0.map toEv) a1 (by simp) hl hc0 w (evsIn_of hr0)
    have h := Option.some.inj h
    rcases hs : atV (l0.map toEv) a1 with _ | l <;> rw [hs] at this h
    · cases h; exact this
    · cases h; exact this
  · cases h

def keepT (o : Option Ml) : Int × Int × Int := match o with
  | some m => (m.ep, m.at_, 0)
  | none => (0, 0, 140)
def life_Keep.f (l0 : List SE) (a1 : Int) : Option (Int × Int × Int) := if l0.length ≤ 140737488351232 then some (keepT (keepV (l0.map toEv) a1)) else none
theorem life_Keep.calls (A0 : Option Addr) (c0 : Nat) (l0 : List SE) (a1 : Int) (r1 r2 r3 : Int) (w : World) (hr0 : Kd.C k54 w A0 l0.length l0) (hc0 : l0.length ≤ c0) (h : life_Keep.f l0 a1 = some (r1, r2, r3)) :
    Calls Try.prog 27 #[.slice A0 l0.length c0, .int .i64 a1] w fun e w' => e = .returned (.tuple #[.agg #[.int .i64 r1, .int .i64 r2], .int .i64 r3]) ∧ Below w.heap.size w w' := by
  unfold life_Keep.f at h
  split at h
  · rename_i hl
    have := keep_any A0 l0.length c0 (l0.map toEv) a1 (by simp) hl hc0 w (evsIn_of hr0)
    have h := Option.some.inj h
    rcases hs : keepV (l0.map toEv) a1 with _ | l <;> rw [hs] at this h
    · cases h; exact this
    · cases h; exact this
  · cases h

def life_Fate.f (l0 : List SE) (a1_0 a1_1 : Int) (a2 : Int) : Option (Int × Int × Int) := if l0.length ≤ 140737488351232 then some (fateV (l0.map toEv) ⟨a1_0, a1_1⟩ a2) else none
theorem life_Fate.calls (A0 : Option Addr) (c0 : Nat) (l0 : List SE) (a1_0 a1_1 : Int) (a2 : Int) (r1 r2 r3 : Int) (w : World) (hr0 : Kd.C k54 w A0 l0.length l0) (hc0 : l0.length ≤ c0) (h : life_Fate.f l0 a1_0 a1_1 a2 = some (r1, r2, r3)) :
    Calls Try.prog 30 #[.slice A0 l0.length c0, .agg #[.int .i64 a1_0, .int .i64 a1_1], .int .i64 a2] w fun e w' => e = .returned (.tuple #[.int .i64 r1, .int .i64 r2, .int .i64 r3]) ∧ Below w.heap.size w w' := by
  unfold life_Fate.f at h
  split at h
  · rename_i hl
    have := fate_any A0 l0.length c0 (l0.map toEv) ⟨a1_0, a1_1⟩ a2 (by simp) hl hc0 w (evsIn_of hr0)
    have h := Option.some.inj h
    rw [h] at this
    exact this
  · cases h

def life_Stays.f (l0 : List SE) : Option (List SY × Int) := if lifeB (l0.map toEv) = true then some ((staysOf (l0.map toEv) (items (l0.map toEv))).map ofSy, 0) else none
theorem life_Stays.calls (A0 : Option Addr) (c0 : Nat) (l0 : List SE) (r1 : List SY) (r2 : Int) (w : World) (hr0 : Kd.C k54 w A0 l0.length l0) (hc0 : l0.length ≤ c0) (h : life_Stays.f l0 = some (r1, r2)) :
    Calls Try.prog 19 #[.slice A0 l0.length c0] w fun e w' => ∃ v0_ : Value, e = .returned (.tuple #[v0_, .int .i64 r2]) ∧ Kd.R k62 62 w' w.heap.size (fun _ => True) v0_ r1 ∧ Below w.heap.size w w' := by
  unfold life_Stays.f at h
  split at h
  · rename_i hl
    simp only [Option.some.injEq, Prod.mk.injEq] at h
    obtain ⟨rfl, rfl⟩ := h
    have hl2 := hl
    simp only [lifeB, Bool.and_eq_true, decide_eq_true_eq, List.length_map] at hl2
    exact (stays_good A0 l0.length c0 (l0.map toEv) (by simp) (by omega) hc0 hl w (evsIn_of hr0)).mono fun e w' ⟨v, h1, h2, h3⟩ => ⟨v, h1, row_stays h2, h3⟩
  · cases h

def encT (e : Ev) : ByteArray × Int := if formedB e = true then (PutInt.bs (encL e), 0) else (ByteArray.empty, 140)
def life_Encode.f (a0_0 a0_1 a0_2 : Int) : Option (ByteArray × Int) := some (encT ⟨a0_0, a0_1, a0_2⟩)
theorem life_Encode.calls (a0_0 a0_1 a0_2 : Int) (r1 : ByteArray) (r2 : Int) (w : World) (h : life_Encode.f a0_0 a0_1 a0_2 = some (r1, r2)) :
    Calls Try.prog 36 #[.agg #[.int .i64 a0_0, .int .i64 a0_1, .int .i64 a0_2]] w fun e w' => e = .returned (.tuple #[.string r1, .int .i64 r2]) ∧ Below w.heap.size w w' := by
  have := encode_any ⟨a0_0, a0_1, a0_2⟩ w
  have h := Option.some.inj h
  unfold encT at h
  unfold encR at this
  split at h
  · rename_i hf
    rw [hf] at this
    cases h; exact this
  · rename_i hf
    rw [if_neg hf] at this
    cases h; exact this

def decT (o : Option Ev) : Int × Int × Int × Int := match o with
  | some e => (e.k, e.a, e.h, 0)
  | none => (0, 0, 0, 140)
def life_Decode.f (a0 : ByteArray) : Option (Int × Int × Int × Int) := if a0.size ≤ 140737488351232 then some (decT (decV a0.data.toList)) else none
theorem life_Decode.calls (a0 : ByteArray) (r1 r2 r3 r4 : Int) (w : World) (h : life_Decode.f a0 = some (r1, r2, r3, r4)) :
    Calls Try.prog 37 #[.string a0] w fun e w' => e = .returned (.tuple #[.agg #[.int .i64 r1, .int .i64 r2, .int .i64 r3], .int .i64 r4]) ∧ Below w.heap.size w w' := by
  unfold life_Decode.f at h
  split at h
  · rename_i hl
    have := decode_any a0 hl w
    have h := Option.some.inj h
    rcases hs : decV a0.data.toList with _ | e <;> rw [hs] at this h
    · cases h; exact this
    · cases h; exact this
  · cases h
end Go.Proofs.Yteilkigdlkeiaaa.Q
