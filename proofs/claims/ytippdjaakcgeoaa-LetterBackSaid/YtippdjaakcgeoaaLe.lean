/- Letters in plain Lean: which are right, their bytes, and bytes read as such. No program in sight. -/
import Derived.Test.YtippdjaakcgeoaaWire
namespace Go.Proofs.Ytippdjaakcgeoaa
open Go Go.RowKit

def flagB (b : Bool) : List UInt8 := [if b then 1 else 0]
def rowB (s : List UInt8) : List UInt8 := enc s.length ++ s
/-- Who is of a group. -/
structure Cfg where
  v : List Int
  o : List Int
  l : List Int
  w : List Int
deriving DecidableEq
/-- An entry. -/
structure Ent where
  term : Int
  kind : Int
  cmd : List UInt8
  cfg : Cfg
deriving DecidableEq
/-- A base. -/
structure Bas where
  index : Int
  term : Int
  cfg : Cfg
deriving DecidableEq
/-- A letter. -/
structure LetF where
  kind : Int
  group : Int
  src : Int
  dst : Int
  term : Int
  index : Int
  logt : Int
  commit : Int
  ok : Bool
  ents : List Ent
  base : Bas
  size : Int
  at_ : Int
  tag : Int
  bytes : List UInt8
deriving DecidableEq
def cfgZ : Cfg := ⟨[], [], [], []⟩
def entZ : Ent := ⟨0, 0, [], cfgZ⟩
def basZ : Bas := ⟨0, 0, cfgZ⟩
def letZ : LetF := ⟨0, 0, 0, 0, 0, 0, 0, 0, false, [], basZ, 0, 0, 0, []⟩

/-- A node at its place in a row: it is one, and greater than the one ahead. -/
def ndAt (l : List Int) (i : Nat) : Bool := decide (1 ≤ l.getD i 0 ∧ l.getD i 0 ≤ 5) && (decide (i = 0) || decide (l.getD (i - 1) 0 < l.getD i 0))
def nodesOk (l : List Int) : Bool := (List.range l.length).all (ndAt l)
def cfgOk (c : Cfg) : Bool := nodesOk c.v && (nodesOk c.o && (nodesOk c.l && nodesOk c.w))
def cfgNone (c : Cfg) : Bool := decide (c.v.length + c.o.length + c.l.length + c.w.length = 0)
def topOk (n : Int) : Bool := decide (0 ≤ n ∧ n ≤ 1073741824)
def entOk (e : Ent) : Bool :=
  topOk e.term && (if e.kind = 1 then decide (e.cmd.length = 0) && cfgNone e.cfg
    else if e.kind = 2 then decide (e.cmd.length ≤ 131072) && cfgNone e.cfg
    else decide (e.kind = 3) && (decide (e.cmd.length = 0) && cfgOk e.cfg))
def basOk (b : Bas) : Bool := topOk b.index && (topOk b.term && cfgOk b.cfg)
def letOk (x : LetF) : Bool :=
  (topOk x.term && (topOk x.index && (topOk x.logt && (topOk x.commit && (topOk x.size && topOk x.at_))))) && (decide (0 ≤ x.tag ∧ x.tag ≤ 4611686018427387903) &&
    ((decide (1 ≤ x.kind ∧ x.kind ≤ 8) && (decide (0 ≤ x.group ∧ x.group ≤ 4) && (decide (1 ≤ x.src ∧ x.src ≤ 5) && decide (1 ≤ x.dst ∧ x.dst ≤ 5)))) &&
      ((decide (x.ents.length ≤ 30) && (decide (x.bytes.length ≤ 131072) && basOk x.base)) && x.ents.all entOk)))
def letsOk (l : List LetF) : Bool := l.all letOk

/-! As bytes. -/
def numsB (l : List Int) : List UInt8 := enc l.length ++ encAll l
def cfgB (c : Cfg) : List UInt8 := numsB c.v ++ (numsB c.o ++ (numsB c.l ++ numsB c.w))
def entB (e : Ent) : List UInt8 := enc e.term.toNat ++ (enc e.kind.toNat ++ (rowB e.cmd ++ cfgB e.cfg))
def entsB (l : List Ent) : List UInt8 := (l.map entB).flatten
def basB (b : Bas) : List UInt8 := enc b.index.toNat ++ (enc b.term.toNat ++ cfgB b.cfg)
def headNs (x : LetF) : List Int := [x.kind, x.group, x.src, x.dst, x.term, x.index, x.logt, x.commit]
def letB (x : LetF) : List UInt8 :=
  encAll (headNs x) ++ (flagB x.ok ++ (enc x.ents.length ++ (entsB x.ents ++ (basB x.base ++ (encAll [x.size, x.at_, x.tag] ++ rowB x.bytes)))))
def letsB (l : List LetF) : List UInt8 := enc l.length ++ (l.map letB).flatten
def letsPut (l : List LetF) : Option (List UInt8) := if letsOk l = true then some (letsB l) else none

/-! What is read. -/
/-- As many numbers, each at most so much. -/
def rdNs (m : Int) : Nat → Rd → List Int × Rd
  | 0, s => ([], s)
  | k + 1, s => ((rdNs m k s).1 ++ [(rdNum m (rdNs m k s).2).1], (rdNum m (rdNs m k s).2).2)
def rdNodes (s : Rd) : List Int × Rd := rdNs 5 (rdNum 5 s).1.toNat (rdNum 5 s).2
def rdCfg (s : Rd) : Cfg × Rd :=
  let a := rdNodes s
  let b := rdNodes a.2
  let c := rdNodes b.2
  let d := rdNodes c.2
  (⟨a.1, b.1, c.1, d.1⟩, d.2)
/-- An entry as it is read, ahead of the look whether it is one. -/
def rdEnt0 (s : Rd) : Ent × Rd :=
  let t := rdNum 1073741824 s
  let k := rdNum 255 t.2
  let c := rdRow 131072 k.2
  let g := rdCfg c.2
  (⟨t.1, k.1, c.1, g.1⟩, g.2)
def rdBas0 (s : Rd) : Bas × Rd :=
  let i := rdNum 1073741824 s
  let t := rdNum 1073741824 i.2
  let g := rdCfg t.2
  (⟨i.1, t.1, g.1⟩, g.2)
def rdEntOk (s : Rd) : Bool := (rdEnt0 s).2.isSome && entOk (rdEnt0 s).1
def rdBasOk (s : Rd) : Bool := (rdBas0 s).2.isSome && basOk (rdBas0 s).1
/-- What is told: an entry, and whether it is one. -/
def rdEnt (s : Rd) : Ent × Bool := if rdEntOk s = true then ((rdEnt0 s).1, true) else (entZ, false)
def rdBas (s : Rd) : Bas × Bool := if rdBasOk s = true then ((rdBas0 s).1, true) else (basZ, false)
def rdEnts : Nat → Rd → (List Ent × Bool) × Rd
  | 0, s => (([], true), s)
  | k + 1, s => (((rdEnts k s).1.1 ++ [(rdEnt (rdEnts k s).2).1], (rdEnts k s).1.2 && (rdEnt (rdEnts k s).2).2), (rdEnt0 (rdEnts k s).2).2)
/-- The bounds that the numbers of a letter's head are read under: the program's, the document's. -/
def headP : List Int := [1073741824, 1073741824, 1073741824, 1073741824, 1073741824, 1073741824, 1073741824, 1073741824]
def headR : List Int := [255, 4, 5, 5, 1073741824, 1073741824, 1073741824, 1073741824]
def rdBy : List Int → Rd → List Int × Rd
  | [], s => ([], s)
  | m :: l, s => ((rdNum m s).1 :: (rdBy l (rdNum m s).2).1, (rdBy l (rdNum m s).2).2)
/-- A letter as it is read: is all right, and what is left. -/
def rdLet (hd : List Int) (s : Rd) : (LetF × Bool) × Rd :=
  let h := rdBy hd s
  let f := rdFlag h.2
  let n := rdNum 30 f.2
  let e := rdEnts n.1.toNat n.2
  let b := rdBas0 e.2
  let sz := rdNum 1073741824 b.2
  let a := rdNum 1073741824 sz.2
  let t := rdNum 4611686018427387903 a.2
  let r := rdRow 131072 t.2
  let x : LetF := ⟨h.1.getD 0 0, h.1.getD 1 0, h.1.getD 2 0, h.1.getD 3 0, h.1.getD 4 0, h.1.getD 5 0, h.1.getD 6 0, h.1.getD 7 0, f.1, e.1.1, (rdBas e.2).1, sz.1, a.1, t.1, r.1⟩
  ((x, e.1.2 && ((rdBas e.2).2 && (r.2.isSome && letOk x))), r.2)
/-- Letters of bytes, one behind the other; none where one is none. -/
def rdLets (hd : List Int) : Nat → List UInt8 → Option (List LetF × List UInt8)
  | 0, s => some ([], s)
  | k + 1, s => match rdLets hd k s with
    | none => none
    | some (l, r) => match rdLet hd (some r) with
      | ((x, true), some r') => some (l ++ [x], r')
      | _ => none
def letsGet (hd : List Int) (b : List UInt8) : Option (List LetF) := match rdNum 1073741824 (some b) with
  | (_, none) => none
  | (n, some r) => match rdLets hd n.toNat r with
    | some (l, []) => some l
    | _ => none
end Go.Proofs.Ytippdjaakcgeoaa
