/- Movers: what they are, and what each deed makes and tells, as plain functions. -/
import Derived.Test.YtfglibkffcogcaaGreatRul
namespace Go.Proofs.YtfglibkffcogcaaGreat
open Go

/-- A handoff. -/
structure Sch where
  num : Int
  lo : List UInt8
  hi : List UInt8
  src : Int
  dst : Int
  epoch : Int
  under : Int
  stage : Int
/-- The orders that a mover asks: all else of them is nothing. -/
structure Ord where
  kind : Int
  epoch : Int
  num : Int
  stage : Int
  lo : List UInt8
  hi : List UInt8
  bytes : List UInt8
structure AskT where
  tag : Int
  group : Int
  ord : Ord
structure Mv where
  line : Option AskT
  since : Int
  next : Int
  works : Option Sch
  bytes : List UInt8
def spanOk (lo hi : List UInt8) : Bool := (decide (lo = []) || keyOk lo) && ((decide (hi = []) || keyOk hi) && (decide (hi = []) || Go.Op.bytesLess lo hi))
def underOk (x : Sch) : Bool := if 4 ≤ x.stage ∧ x.stage ≤ 6 then decide (x.epoch < x.under ∧ x.under ≤ 1073741824) else decide (x.under = 0)
def schOk (x : Sch) : Bool :=
  decide (1 ≤ x.num ∧ x.num ≤ 1073741824) && (spanOk x.lo x.hi && (decide ((1 ≤ x.src ∧ x.src ≤ 4) ∧ (1 ≤ x.dst ∧ x.dst ≤ 4) ∧ x.src ≠ x.dst) && (decide (1 ≤ x.epoch ∧ x.epoch ≤ 1073741824) && (decide (1 ≤ x.stage ∧ x.stage ≤ 9) && underOk x))))
def schOver (x : Sch) : Bool := decide (x.stage = 6) || decide (x.stage = 9)
def askM (s : Mv) (group : Int) (o : Ord) : Mv × List AskT := ({ s with line := some ⟨s.next, group, o⟩, since := 0, next := s.next + 1 }, [⟨s.next, group, o⟩])
def stepO (num stage : Int) : Ord := ⟨12, 0, num, stage, [], [], []⟩
def freezeO (x : Sch) : Ord := ⟨3, x.epoch, x.num, 0, x.lo, x.hi, []⟩
def absorbO (x : Sch) (bs : List UInt8) : Ord := ⟨5, 0, x.num, 0, x.lo, x.hi, bs⟩
def plainO (kind num : Int) : Ord := ⟨kind, 0, num, 0, [], [], []⟩
def openO (x : Sch) : Ord := ⟨6, x.under, x.num, 0, [], [], []⟩
/-- What is asked first at a stage. -/
def firstM (s : Mv) (x : Sch) : Mv × List AskT :=
  if x.stage = 1 then askM s x.src (freezeO x)
  else if x.stage = 2 then (if s.bytes = [] then askM s x.src (freezeO x) else askM s x.dst (absorbO x s.bytes))
  else if x.stage = 3 then askM s 0 (stepO x.num 4)
  else if x.stage = 4 then askM s x.dst (openO x)
  else if x.stage = 5 then askM s x.src (plainO 7 x.num)
  else if x.stage = 7 then askM s x.src (plainO 4 x.num)
  else askM s x.dst (plainO 8 x.num)
def againM (s : Mv) : Mv × List AskT := match s.line with
  | none => (s, [])
  | some a => if s.since + 1 < 5 then ({ s with since := s.since + 1 }, []) else ({ s with since := 0 }, [a])
def sameAt (s : Mv) (x : Sch) : Bool := match s.works with
  | none => false
  | some y => decide (y.num = x.num ∧ y.stage = x.stage)
def sameNum (s : Mv) (x : Sch) : Bool := match s.works with
  | none => false
  | some y => decide (y.num = x.num)
def idleM (s : Mv) : Mv := ⟨none, 0, s.next, none, []⟩
def tickM (s : Mv) (x : Sch) (under : Bool) : Mv × List AskT :=
  if (under && (schOk x && !schOver x)) = false then (idleM s, [])
  else if sameAt s x = true then againM s
  else firstM { s with works := some x, bytes := if sameNum s x = true then s.bytes else [] } x
/-- Where it works: its handoff's number and stage, 0 and 0 where it works at nothing. -/
def worksN (s : Mv) : Int × Int := match s.works with
  | none => (0, 0)
  | some x => (x.num, x.stage)
def frozenM (s : Mv) (x : Sch) (err : Int) (bs : List UInt8) : Mv × List AskT :=
  if err ≠ 0 ∨ 65536 < bs.length then askM s 0 (stepO x.num 7)
  else if bs = [] then ({ s with since := 0 }, [])
  else if x.stage = 1 then askM { s with bytes := bs } 0 (stepO x.num 2)
  else askM { s with bytes := bs } x.dst (absorbO x bs)
def doneStage (kind : Int) : Int := if kind = 6 then 5 else if kind = 7 then 6 else if kind = 4 then 8 else 9
def answerM (s : Mv) (tag err : Int) (bs : List UInt8) : Mv × List AskT := match s.line, s.works with
  | some a, some x =>
    if a.tag ≠ tag then (s, [])
    else if a.ord.kind = 3 then frozenM s x err bs
    else if a.ord.kind = 5 then askM s 0 (stepO x.num (if err = 0 then 3 else 7))
    else if a.ord.kind = 12 then (if err ≠ 0 ∧ a.ord.stage = 4 then askM s 0 (stepO x.num 7) else ({ s with line := none, since := 0 }, []))
    else if err ≠ 0 then ({ s with since := 0 }, [])
    else askM s 0 (stepO x.num (doneStage a.ord.kind))
  | _, _ => (s, [])
def newM (first : Int) : Mv := ⟨none, 0, first + 1, none, []⟩
/-- What holds of each mover that was made, ticked, answered. -/
structure MvOk (s : Mv) : Prop where
  works : ∀ x, s.works = some x → schOk x = true ∧ schOver x = false
  line : s.line ≠ none → s.works ≠ none
  kind : ∀ a, s.line = some a → a.ord.kind = 3 ∨ a.ord.kind = 4 ∨ a.ord.kind = 5 ∨ a.ord.kind = 6 ∨ a.ord.kind = 7 ∨ a.ord.kind = 8 ∨ a.ord.kind = 12
  idle : s.works = none → s.bytes = []
end Go.Proofs.YtfglibkffcogcaaGreat
