/- The lives of numbers, as plain functions. -/
namespace Go.Proofs.Yteilkigdlkeiaaa.Lf
set_option linter.unusedVariables false
set_option linter.unusedSimpArgs false

/-- a line: state, holder, epoch, since -/
structure Ln where
  st : Int
  ho : Int
  ep : Int
  si : Int
deriving DecidableEq

/-- an event: kind, when, holder -/
structure Ev where
  k : Int
  a : Int
  h : Int
deriving DecidableEq

def inB (n lo hi : Int) : Bool := decide (lo ≤ n) && decide (n ≤ hi)
def validB (l : Ln) : Bool := inB l.st 0 3 && inB l.ep 0 1000 && inB l.si 0 10000000 && (if l.st = 0 then l.ho == -1 else inB l.ho 0 63 && decide (1 ≤ l.ep))
def namedB (k : Int) : Bool := k == 1 || k == 2
def formedB (e : Ev) : Bool := inB e.k 1 7 && inB e.a 0 10000000 && (if namedB e.k then inB e.h 0 63 else e.h == -1)
/-- may the (formed) event follow the (valid) line? -/
def mayB (l : Ln) (e : Ev) : Bool :=
  decide (l.si ≤ e.a) && (if e.k = 1 then l.st == 0 && decide (l.ep < 1000) else if e.k = 2 then l.st == 1 && (l.ho != e.h) && decide (l.ep < 1000) else if e.k = 3 then l.st == 1 else if e.k = 4 then l.st == 2 else if e.k = 5 then l.st == 1 || l.st == 2 else if e.k = 6 then l.st == 3 else l.st == 3 && decide (l.si + 2592000 ≤ e.a))
/-- the line after an event that may follow -/
def nextL (l : Ln) (e : Ev) : Ln :=
  if namedB e.k then ⟨1, e.h, l.ep + 1, e.a⟩ else if e.k = 3 then ⟨2, l.ho, l.ep, e.a⟩ else if e.k = 4 then ⟨1, l.ho, l.ep, e.a⟩ else if e.k = 6 then ⟨1, l.ho, l.ep, e.a⟩ else if e.k = 5 then ⟨3, l.ho, l.ep, e.a⟩ else ⟨0, -1, l.ep, e.a⟩
/-- the line after an event -/
def step (l : Ln) (e : Ev) : Option Ln := if validB l && formedB e && mayB l e then some (nextL l e) else none

def usedB (l : Ln) : Bool := l.st == 1 || l.st == 2
def zeroL : Ln := ⟨0, 0, 0, 0⟩
def firstL : Ln := ⟨0, -1, 0, 0⟩

end Go.Proofs.Yteilkigdlkeiaaa.Lf
