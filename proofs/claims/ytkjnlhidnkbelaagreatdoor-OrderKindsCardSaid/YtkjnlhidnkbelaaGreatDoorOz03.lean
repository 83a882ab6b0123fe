/- Lemmas of the walks: Gr3, Gr7. (Laid together by shake.py.) -/
import Derived.Laws.StructEq
import Derived.Test.YtkjnlhidnkbelaaGreatDoorOz01
import Derived.Test.YtkjnlhidnkbelaaGreatDoorOz02
set_option linter.unusedVariables false
set_option linter.unusedSimpArgs false
/- Rulings: names, reads held against each other; reads of two lists; the document's book: what it has of a name. -/
namespace Go.Proofs.YtkjnlhidnkbelaaGreatDoor
open Go Go.RowKit

theorem eqf_name : Tryz.prog.underlying 25 = some (.struct (Tryz.prog.fieldsOf 25)) := by kernel_rfl
theorem eqf_read : Tryz.prog.underlying 93 = some (.struct (Tryz.prog.fieldsOf 93)) := by kernel_rfl
theorem stood_name : Tryz.prog.stoodInHeld 25 = false := by kernel_rfl
theorem stood_read : Tryz.prog.stoodInHeld 93 = false := by kernel_rfl
theorem name_eq (w : World) (x y : Nm) : (Op.equalIn 10000 25 (.agg #[I64 x.1, I64 x.2]) (.agg #[I64 y.1, I64 y.2])).run Tryz.prog w = .ok (decide (x = y)) w := by
  rw [run_equalIn_agg w 9999 _ _ _ eqf_name stood_name]
  unfold Program.fieldsOf
  simp only [Tryz.underlying25]
  simp [Op.eqFields, go_sem, Tryz.underlying3]
  obtain ⟨a, b⟩ := x
  obtain ⟨c, d⟩ := y
  by_cases h1 : a = c
  · by_cases h2 : b = d
    · simp [h1, h2]
    · simp [h1, h2]
  · simp [h1]
theorem name_eql (w : World) (x y : Nm) : (binOp .eql 25 (.agg #[I64 x.1, I64 x.2]) (.agg #[I64 y.1, I64 y.2])).run Tryz.prog w = .ok (.bool (decide (x = y))) w := by
  rw [run_eql_struct, name_eq]; rfl
theorem read_eq (w : World) (x y : Rdg) : (Op.equalIn 10000 93 (.agg #[StrV x.1, .bool x.2.1, StrV x.2.2]) (.agg #[StrV y.1, .bool y.2.1, StrV y.2.2])).run Tryz.prog w = .ok (decide (x = y)) w := by
  rw [run_equalIn_agg w 9999 _ _ _ eqf_read stood_read]
  unfold Program.fieldsOf
  simp only [Tryz.underlying93]
  simp [Op.eqFields, go_sem, Tryz.underlying9, Tryz.underlying4]
  obtain ⟨a, m, b⟩ := x
  obtain ⟨c, n, d⟩ := y
  by_cases h1 : a = c
  · by_cases h2 : m = n
    · by_cases h3 : b = d
      · simp [h1, h2, h3]
      · simp [h1, h2, h3]
    · simp [h1, h2]
  · simp [h1]
theorem read_eql (w : World) (x y : Rdg) : (binOp .eql 93 (.agg #[StrV x.1, .bool x.2.1, StrV x.2.2]) (.agg #[StrV y.1, .bool y.2.1, StrV y.2.2])).run Tryz.prog w = .ok (.bool (decide (x = y))) w := by
  rw [run_eql_struct, read_eq]; rfl
theorem read_neq (w : World) (x y : Rdg) : (binOp .neq 93 (.agg #[StrV x.1, .bool x.2.1, StrV x.2.2]) (.agg #[StrV y.1, .bool y.2.1, StrV y.2.2])).run Tryz.prog w = .ok (.bool (!decide (x = y))) w := by
  rw [run_neq_struct, read_eq]; rfl

/-- All reads before the k-th are the same. -/
def SameTo (w : World) (a b : List Rdg) (i : Value) (wx : World) : Prop := ∃ k : Nat, k ≤ a.length ∧ i = .int .i64 k ∧ (∀ j (h : j < a.length) (h' : j < b.length), j < k → a[j] = b[j]) ∧ Nw w wx
set_option maxRecDepth 100000 in
theorem sameReads_any (w : World) (F1 F2 : Nat → Prop) (A1 A2 : Option Addr) (c1 c2 : Nat) (a b : List Rdg) (h1 : Sl w F1 A1 (rdgsCells a)) (h2 : Sl w F2 A2 (rdgsCells b)) (hl : a.length ≤ 1000000000) :
    Calls Tryz.prog 68 #[.slice A1 a.length c1, .slice A2 b.length c2] w fun e w' => e = .returned (.bool (decide (a = b))) ∧ Nw w w' := by
  by_cases hlen : a.length = b.length
  · obtain ⟨n, hn⟩ : ∃ n, n = a.length := ⟨_, rfl⟩
    have hnb : n = b.length := hn.trans hlen
    rw [← hlen, ← hn]
    have HA := Lib.hid hn
    have HB := Lib.hid hnb
    have hl : n ≤ 1000000000 := by omega
    clear hn hnb hlen
    go_enter Tryz.func68, Tryz.ntmps68
    go_wp2_with fail
    go_loopw [5] (fun i wx => SameTo w a b i wx) (fun i _ => n - (intOf i).toNat)
    case atStart => exact ⟨0, Nat.zero_le _, rfl, fun _ _ _ h => by omega, Fr.refl _ _⟩
    case round =>
      obtain ⟨k, hk, rfl, hok, hq⟩ := hrel
      have HK := Lib.hid hok
      have hkn : k ≤ n := by rw [HA.out]; exact hk
      clear hok hk
      by_cases hlt : k < n
      · have hka : k < a.length := by rw [← HA.out]; exact hlt
        have hkb : k < b.length := by rw [← HB.out]; exact hlt
        obtain ⟨b1, o1, rfl, _, x1, x2, x3⟩ := (h1.fr hq (fun _ _ h => h)).rdg hka
        obtain ⟨b2, o2, rfl, _, y1, y2, y3⟩ := (h2.fr hq (fun _ _ h => h)).rdg hkb
        have hne := fun w => read_neq w a[k] b[k]
        obtain ⟨p, hp⟩ : ∃ p, decide (a[k] = b[k]) = p := ⟨_, rfl⟩
        rw [hp] at hne
        have HP := Lib.hid hp
        clear hp
        generalize a[k] = x at x1 x2 x3 hne
        generalize b[k] = y at y1 y2 y3 hne
        have d1 := fun (n : Later wr) => n.cell x1
        have d2 := fun (n : Later wr) => n.cell x2
        have d3 := fun (n : Later wr) => n.cell x3
        have d4 := fun (n : Later wr) => n.cell y1
        have d5 := fun (n : Later wr) => n.cell y2
        have d6 := fun (n : Later wr) => n.cell y3
        clear x1 x2 x3 y1 y2 y3
        go_wp2_with fail
        refine wp_region_later (by kernel_rfl) (by kernel_rfl) ?_
        repeat (go_big_quiet_step (fail))
        refine wpQuiet_later fun w5 q5 => ?_
        cases p
        · go_wp2_with fail
          go_ret
          refine ⟨retB (decide_eq_false fun e => ?_).symm, hq.tr q5⟩
          subst e
          have := HP.out
          simp at this
        · go_wp2_with fail
          go_roundw
          case rel =>
            refine ⟨k + 1, by omega, rfl, fun j h3 h4 hjk => ?_, hq.tr q5⟩
            by_cases hjk2 : j < k
            · exact HK.out j h3 h4 hjk2
            · obtain rfl : j = k := by omega
              exact of_decide_eq_true HP.out
          case measure => simp [intOf]; omega
      · go_wp2_with fail
        go_ret
        refine ⟨retB (decide_eq_true (List.ext_getElem (by rw [← HA.out, ← HB.out]) fun j h3 h4 => HK.out j h3 h4 (by have := HA.out; omega))).symm, hq⟩
  · have hne : ¬ (a.length : Int) = (b.length : Int) := by omega
    go_enter Tryz.func68, Tryz.ntmps68
    go_wp2_with fail
    go_ret
    exact ⟨retB (decide_eq_false fun e => hlen (by rw [e])).symm, Fr.refl _ _⟩
end Go.Proofs.YtkjnlhidnkbelaaGreatDoor
/- Rulings in plain Lean: a book as bytes is read as it was; the first verdict stands. -/
namespace Go.Proofs.YtkjnlhidnkbelaaGreatDoor
open Go Go.RowKit

theorem rdgOk_len {r : Rdg} (h : rdgOk r = true) : r.1.length ≤ 20 ∧ r.2.2.length ≤ 20 := by
  unfold rdgOk keyOk at h
  simp only [Bool.and_eq_true, Bool.or_eq_true, decide_eq_true_eq] at h
  exact ⟨h.1.1.2, h.2.1⟩
theorem encAll3 (a b c : Int) : encAll [a, b, c] = enc a.toNat ++ (enc b.toNat ++ enc c.toNat) := by simp [encAll]
end Go.Proofs.YtkjnlhidnkbelaaGreatDoor
/- Movers: what they are, and what each deed makes and tells, as plain functions. -/
namespace Go.Proofs.YtkjnlhidnkbelaaGreatDoor
open Go

def spanOk (lo hi : List UInt8) : Bool := (decide (lo = []) || keyOk lo) && ((decide (hi = []) || keyOk hi) && (decide (hi = []) || Go.Op.bytesLess lo hi))
end Go.Proofs.YtkjnlhidnkbelaaGreatDoor
/- Orders and answers in plain Lean: which are right, their bytes, and bytes read as such. No program in sight. -/
namespace Go.Proofs.YtkjnlhidnkbelaaGreatDoor
open Go Go.RowKit

/-- An act. -/
structure ActT where
  kind : Int
  key : List UInt8
  val : List UInt8
  num : Int
deriving DecidableEq
/-- An order. -/
structure OrdF where
  kind : Int
  nm : Nm
  epoch : Int
  acts : List ActT
  commit : Bool
  reads : List Rdg
  scheme : Int
  stage : Int
  to : Int
  lo : List UInt8
  hi : List UInt8
  bytes : List UInt8
deriving DecidableEq
/-- An answer. -/
structure AnsF where
  err : Int
  nm : Nm
  is : Bool
  commit : Bool
  reads : List Rdg
  scheme : Int
  stage : Int
  bytes : List UInt8
deriving DecidableEq
def ordZ (kind : Int) : OrdF := ⟨kind, (0, 0), 0, [], false, [], 0, 0, 0, [], [], []⟩
def ansZ : AnsF := ⟨0, (0, 0), false, false, [], 0, 0, []⟩

/-- A letter of a value. -/
def valCh (b : UInt8) : Bool := keyCh b || decide (b.toNat = 45)
def actOk (a : ActT) : Bool :=
  keyOk a.key && (if a.kind = 1 then decide (a.val = []) && decide (a.num = 0)
    else if a.kind = 2 then (decide (a.val.length ≤ 20) && a.val.all valCh) && decide (a.num = 0)
    else if a.kind = 3 then decide (a.val = []) && decide (-1073741824 ≤ a.num ∧ a.num ≤ 1073741824)
    else false)
def actsOk (l : List ActT) : Bool := decide (1 ≤ l.length ∧ l.length ≤ 6) && l.all actOk
def rdgsOk (commit : Bool) (l : List Rdg) : Bool := decide (l.length ≤ 6) && ((commit || decide (l = [])) && l.all rdgOk)

/-- The parts of orders. -/
inductive Part where
  | name | epoch | acts | commit | reads | scheme | stage | group | stretch | load
deriving DecidableEq
/-- A part is right. -/
def partOk (x : OrdF) : Part → Bool
  | .name => decide (nmOk x.nm)
  | .epoch => decide (0 ≤ x.epoch ∧ x.epoch ≤ 1073741824)
  | .acts => actsOk x.acts
  | .commit => true
  | .reads => rdgsOk x.commit x.reads
  | .scheme => decide (1 ≤ x.scheme ∧ x.scheme ≤ 1073741824)
  | .stage => decide (0 ≤ x.stage ∧ x.stage ≤ 20)
  | .group => decide (1 ≤ x.to ∧ x.to ≤ 4)
  | .stretch => spanOk x.lo x.hi
  | .load => decide (x.bytes.length ≤ 65536)
/-- A part taken over. -/
def partTo (x y : OrdF) : Part → OrdF
  | .name => { y with nm := x.nm }
  | .epoch => { y with epoch := x.epoch }
  | .acts => { y with acts := x.acts }
  | .commit => { y with commit := x.commit }
  | .reads => { y with reads := x.reads }
  | .scheme => { y with scheme := x.scheme }
  | .stage => { y with stage := x.stage }
  | .group => { y with to := x.to }
  | .stretch => { y with lo := x.lo, hi := x.hi }
  | .load => { y with bytes := x.bytes }
/-- What each kind has. -/
def partsOf (kind : Int) : List Part :=
  if kind = 1 then [.name, .epoch, .acts]
  else if kind = 2 then [.name, .commit]
  else if kind = 3 then [.scheme, .stretch, .epoch]
  else if kind = 4 then [.scheme]
  else if kind = 5 then [.scheme, .stretch, .load]
  else if kind = 6 then [.scheme, .epoch]
  else if kind = 7 then [.scheme]
  else if kind = 8 then [.scheme]
  else if kind = 9 then [.name, .commit, .reads]
  else if kind = 10 then [.name]
  else if kind = 11 then [.stretch, .group]
  else if kind = 12 then [.scheme, .stage]
  else []
def kindOk (kind : Int) : Bool := decide (1 ≤ kind ∧ kind ≤ 13)
def onlyF (x : OrdF) (l : List Part) : OrdF := l.foldl (partTo x) (ordZ x.kind)
def ordOk (x : OrdF) : Bool := (kindOk x.kind && (partsOf x.kind).all (partOk x)) && decide (x = onlyF x (partsOf x.kind))
def ansOk (x : AnsF) : Bool :=
  decide (0 ≤ x.err ∧ x.err ≤ 99) && ((decide (x.nm = (0, 0)) || decide (nmOk x.nm)) && (rdgsOk true x.reads && (decide (0 ≤ x.scheme ∧ x.scheme ≤ 1073741824) && (decide (0 ≤ x.stage ∧ x.stage ≤ 20) && decide (x.bytes.length ≤ 131072)))))

/-- As bytes. -/
def actB (a : ActT) : List UInt8 := enc a.kind.toNat ++ (rowB a.key ++ (rowB a.val ++ (flagB (decide (a.num < 0)) ++ enc a.num.natAbs)))
def actsB (l : List ActT) : List UInt8 := (l.map actB).flatten
def ordB (x : OrdF) : List UInt8 :=
  encAll [x.kind, x.nm.1, x.nm.2, x.epoch] ++ ((enc x.acts.length ++ actsB x.acts) ++ (flagB x.commit ++ ((enc x.reads.length ++ rdgsB x.reads) ++ (encAll [x.scheme, x.stage, x.to] ++ (rowB x.lo ++ (rowB x.hi ++ rowB x.bytes))))))
def ansB (x : AnsF) : List UInt8 :=
  encAll [x.err, x.nm.1, x.nm.2] ++ (flagB x.is ++ (flagB x.commit ++ ((enc x.reads.length ++ rdgsB x.reads) ++ (encAll [x.scheme, x.stage] ++ rowB x.bytes))))

/-- What is read. -/
def rdAct (s : Rd) : (ActT × Bool) × Rd :=
  let k := rdNum 255 s
  let key := rdRow 20 k.2
  let v := rdRow 20 key.2
  let less := rdFlag v.2
  let n := rdNum 1073741824 less.2
  ((⟨k.1, key.1, v.1, if less.1 = true then -n.1 else n.1⟩, !less.1 || decide (0 < n.1)), n.2)
def rdActs : Nat → Rd → (List ActT × Bool) × Rd
  | 0, s => (([], true), s)
  | k + 1, s => (((rdActs k s).1.1 ++ [(rdAct (rdActs k s).2).1.1], (rdActs k s).1.2 && (rdAct (rdActs k s).2).1.2), (rdAct (rdActs k s).2).2)
def rdRdgsN (s : Rd) : List Rdg × Rd := rdRdgs (rdNum 6 s).1.toNat (rdNum 6 s).2
def rdActsN (s : Rd) : (List ActT × Bool) × Rd := rdActs (rdNum 6 s).1.toNat (rdNum 6 s).2
def rdOrd (s : Rd) : (OrdF × Bool) × Rd :=
  let kind := rdNum 255 s
  let c := rdNum 1073741824 kind.2
  let n := rdNum 1073741824 c.2
  let ep := rdNum 1073741824 n.2
  let a := rdActsN ep.2
  let cm := rdFlag a.2
  let r := rdRdgsN cm.2
  let sc := rdNum 1073741824 r.2
  let st := rdNum 1073741824 sc.2
  let to := rdNum 1073741824 st.2
  let lo := rdRow 20 to.2
  let hi := rdRow 20 lo.2
  let bs := rdRow 65536 hi.2
  ((⟨kind.1, (c.1, n.1), ep.1, a.1.1, cm.1, r.1, sc.1, st.1, to.1, lo.1, hi.1, bs.1⟩, a.1.2), bs.2)
def rdAns (s : Rd) : AnsF × Rd :=
  let er := rdNum 99 s
  let c := rdNum 1073741824 er.2
  let n := rdNum 1073741824 c.2
  let is := rdFlag n.2
  let cm := rdFlag is.2
  let r := rdRdgsN cm.2
  let sc := rdNum 1073741824 r.2
  let st := rdNum 1073741824 sc.2
  let bs := rdRow 131072 st.2
  (⟨er.1, (c.1, n.1), is.1, cm.1, r.1, sc.1, st.1, bs.1⟩, bs.2)
def ordGet (b : List UInt8) : Option OrdF :=
  if ((rdOrd (some b)).1.2 && (decide (rdEnd (rdOrd (some b)).2 = 0) && ordOk (rdOrd (some b)).1.1)) = true then some (rdOrd (some b)).1.1 else none
def ansGet (b : List UInt8) : Option AnsF :=
  if (decide (rdEnd (rdAns (some b)).2 = 0) && ansOk (rdAns (some b)).1) = true then some (rdAns (some b)).1 else none
end Go.Proofs.YtkjnlhidnkbelaaGreatDoor
/- Acts in memory; held against each other. -/
namespace Go.Proofs.YtkjnlhidnkbelaaGreatDoor
open Go Go.RowKit

theorem info_act : (Tryz.prog.info? 91).map (fun i => (i.zero, i.size, i.bytes)) = some (some (.agg #[.int .u8 0, .string ⟨#[]⟩, .string ⟨#[]⟩, .int .i64 0]), 4, 48) := by kernel_rfl
theorem act_size : (Tryz.prog.info? 91).map (·.size) = some 4 := by kernel_rfl
def actCells (r : ActT) : List Value := [.int .u8 r.kind, StrV r.key, StrV r.val, I64 r.num]
def actsCells (l : List ActT) : List Value := (l.map actCells).flatten
theorem actsCells_cons (r : ActT) (l : List ActT) : actsCells (r :: l) = actCells r ++ actsCells l := rfl
theorem actsCells_append (a b : List ActT) : actsCells (a ++ b) = actsCells a ++ actsCells b := by simp [actsCells]
theorem actsCells_len (l : List ActT) : (actsCells l).length = l.length * 4 := by
  induction l with
  | nil => rfl
  | cons r l ih => rw [actsCells_cons, List.length_append, ih]; simp [actCells]; omega
theorem actsCells_one (l : List ActT) : ∀ u ∈ actsCells l, u.oneCell' = true := by
  intro u hu
  obtain ⟨x, hx, hu⟩ := List.mem_flatten.1 hu
  obtain ⟨r, _, rfl⟩ := List.mem_map.1 hx
  simp [actCells] at hu
  rcases hu with rfl | rfl | rfl | rfl <;> rfl
theorem actsCells_at (l : List ActT) (k : Nat) (h : k < l.length) (j : Nat) (hj : j < 4) : (actsCells l)[k * 4 + j]? = (actCells l[k])[j]? := by
  induction l generalizing k with
  | nil => simp at h
  | cons r l ih =>
    rw [actsCells_cons]
    cases k with
    | zero => rw [List.getElem?_append_left (by simp [actCells]; omega)]; simp
    | succ k =>
      rw [List.getElem?_append_right (by simp [actCells]; omega)]
      have := ih k (by simpa using h)
      rw [List.getElem_cons_succ, ← this]
      congr 1
      simp [actCells]
      omega
theorem Sl.act {w : World} {F : Nat → Prop} {A : Option Addr} {l : List ActT} (h : Sl w F A (actsCells l)) {k : Nat} (hk : k < l.length) :
    ∃ b o, A = some ⟨b, o, none⟩ ∧ F b ∧ w.cell? ⟨b, o + k * 4, none⟩ = some (.int .u8 l[k].kind) ∧ w.cell? ⟨b, o + k * 4 + 1, none⟩ = some (StrV l[k].key) ∧ w.cell? ⟨b, o + k * 4 + 2, none⟩ = some (StrV l[k].val) ∧ w.cell? ⟨b, o + k * 4 + 3, none⟩ = some (I64 l[k].num) := by
  obtain ⟨b, o, hA, hF, _, hc⟩ := h.at_ (by intro e; have := congrArg List.length e; rw [actsCells_len] at this; simp at this; omega)
  exact ⟨b, o, hA, hF, by have := hc (k * 4 + 0) _ (actsCells_at l k hk 0 (by omega)); simpa using this, by rw [Nat.add_assoc]; exact hc _ _ (actsCells_at l k hk 1 (by omega)), by rw [Nat.add_assoc]; exact hc _ _ (actsCells_at l k hk 2 (by omega)), by rw [Nat.add_assoc]; exact hc _ _ (actsCells_at l k hk 3 (by omega))⟩
theorem eqf_act : Tryz.prog.underlying 91 = some (.struct (Tryz.prog.fieldsOf 91)) := by kernel_rfl
theorem stood_act : Tryz.prog.stoodInHeld 91 = false := by kernel_rfl
/-- An act as a value. -/
abbrev ActV (x : ActT) : Value := .agg #[.int .u8 x.kind, StrV x.key, StrV x.val, I64 x.num]
theorem act_eq (w : World) (x y : ActT) : (Op.equalIn 10000 91 (ActV x) (ActV y)).run Tryz.prog w = .ok (decide (x = y)) w := by
  rw [run_equalIn_agg w 9999 _ _ _ eqf_act stood_act]
  unfold Program.fieldsOf
  simp only [Tryz.underlying91]
  simp [Op.eqFields, go_sem, Tryz.underlying9, Tryz.underlying3, Tryz.underlying89]
  obtain ⟨a, m, b, n⟩ := x
  obtain ⟨c, p, d, q⟩ := y
  by_cases h1 : a = c
  · by_cases h2 : m = p
    · by_cases h3 : b = d
      · by_cases h4 : n = q
        · simp [h1, h2, h3, h4]
        · simp [h1, h2, h3, h4]
      · simp [h1, h2, h3]
    · simp [h1, h2]
  · simp [h1]
theorem act_eql (w : World) (x y : ActT) : (binOp .eql 91 (ActV x) (ActV y)).run Tryz.prog w = .ok (.bool (decide (x = y))) w := by
  rw [run_eql_struct, act_eq]; rfl
theorem act_neq (w : World) (x y : ActT) : (binOp .neq 91 (ActV x) (ActV y)).run Tryz.prog w = .ok (.bool (!decide (x = y))) w := by
  rw [run_neq_struct, act_eq]; rfl
/-- All acts before the k-th are the same. -/
def SameAcTo (w : World) (a b : List ActT) (i : Value) (wx : World) : Prop := ∃ k : Nat, k ≤ a.length ∧ i = .int .i64 k ∧ (∀ j (h : j < a.length) (h' : j < b.length), j < k → a[j] = b[j]) ∧ Nw w wx
set_option maxRecDepth 100000 in
theorem sameActs_any (w : World) (F1 F2 : Nat → Prop) (A1 A2 : Option Addr) (c1 c2 : Nat) (a b : List ActT) (h1 : Sl w F1 A1 (actsCells a)) (h2 : Sl w F2 A2 (actsCells b)) (hl : a.length ≤ 1000000000) :
    Calls Tryz.prog 67 #[.slice A1 a.length c1, .slice A2 b.length c2] w fun e w' => e = .returned (.bool (decide (a = b))) ∧ Nw w w' := by
  by_cases hlen : a.length = b.length
  · obtain ⟨n, hn⟩ : ∃ n, n = a.length := ⟨_, rfl⟩
    have hnb : n = b.length := hn.trans hlen
    rw [← hlen, ← hn]
    have HA := Lib.hid hn
    have HB := Lib.hid hnb
    have hl : n ≤ 1000000000 := by omega
    clear hn hnb hlen
    go_enter Tryz.func67, Tryz.ntmps67
    go_wp2_with fail
    go_loopw [5] (fun i wx => SameAcTo w a b i wx) (fun i _ => n - (intOf i).toNat)
    case atStart => exact ⟨0, Nat.zero_le _, rfl, fun _ _ _ h => by omega, Fr.refl _ _⟩
    case round =>
      obtain ⟨k, hk, rfl, hok, hq⟩ := hrel
      have HK := Lib.hid hok
      have hkn : k ≤ n := by rw [HA.out]; exact hk
      clear hok hk
      by_cases hlt : k < n
      · have hka : k < a.length := by rw [← HA.out]; exact hlt
        have hkb : k < b.length := by rw [← HB.out]; exact hlt
        obtain ⟨b1, o1, rfl, _, x1, x2, x3, x4⟩ := (h1.fr hq (fun _ _ h => h)).act hka
        obtain ⟨b2, o2, rfl, _, y1, y2, y3, y4⟩ := (h2.fr hq (fun _ _ h => h)).act hkb
        have hne := fun w => act_neq w a[k] b[k]
        obtain ⟨p, hp⟩ : ∃ p, decide (a[k] = b[k]) = p := ⟨_, rfl⟩
        rw [hp] at hne
        have HP := Lib.hid hp
        clear hp
        generalize a[k] = x at x1 x2 x3 x4 hne
        generalize b[k] = y at y1 y2 y3 y4 hne
        have d1 := fun (n : Later wr) => n.cell x1
        have d2 := fun (n : Later wr) => n.cell x2
        have d3 := fun (n : Later wr) => n.cell x3
        have d4 := fun (n : Later wr) => n.cell y1
        have d7 := fun (n : Later wr) => n.cell x4
        have d8 := fun (n : Later wr) => n.cell y4
        have d5 := fun (n : Later wr) => n.cell y2
        have d6 := fun (n : Later wr) => n.cell y3
        clear x1 x2 x3 x4 y1 y2 y3 y4
        go_wp2_with fail
        refine wp_region_later (by kernel_rfl) (by kernel_rfl) ?_
        repeat (go_big_quiet_step (fail))
        refine wpQuiet_later fun w5 q5 => ?_
        cases p
        · go_wp2_with fail
          go_ret
          refine ⟨retB (decide_eq_false fun e => ?_).symm, hq.tr q5⟩
          subst e
          have := HP.out
          simp at this
        · go_wp2_with fail
          go_roundw
          case rel =>
            refine ⟨k + 1, by omega, rfl, fun j h3 h4 hjk => ?_, hq.tr q5⟩
            by_cases hjk2 : j < k
            · exact HK.out j h3 h4 hjk2
            · obtain rfl : j = k := by omega
              exact of_decide_eq_true HP.out
          case measure => simp [intOf]; omega
      · go_wp2_with fail
        go_ret
        refine ⟨retB (decide_eq_true (List.ext_getElem (by rw [← HA.out, ← HB.out]) fun j h3 h4 => HK.out j h3 h4 (by have := HA.out; omega))).symm, hq⟩
  · have hne : ¬ (a.length : Int) = (b.length : Int) := by omega
    go_enter Tryz.func67, Tryz.ntmps67
    go_wp2_with fail
    go_ret
    exact ⟨retB (decide_eq_false fun e => hlen (by rw [e])).symm, Fr.refl _ _⟩
end Go.Proofs.YtkjnlhidnkbelaaGreatDoor
/- Reading in an order, in plain Lean. -/
namespace Go.Proofs.YtkjnlhidnkbelaaGreatDoor
open Go Go.RowKit

theorem rdNum_left (m : Int) (s : Rd) : rdLeft (rdNum m s).2 ≤ rdLeft s := by
  rcases rdNum_cases m s with h | ⟨bs, k, r, rfl, h, _, _, hb⟩
  · rw [h]; exact Nat.zero_le _
  · rw [h]; simp [rdLeft, hb]
theorem rdFlag_left (s : Rd) : rdLeft (rdFlag s).2 ≤ rdLeft s := by
  cases s with
  | none => exact Nat.le_refl _
  | some bs =>
    cases bs with
    | nil => exact Nat.le_refl _
    | cons b r =>
      by_cases h : 1 < b.toNat
      · have e : rdFlag (some (b :: r)) = (false, none) := by simp [rdFlag, h]
        rw [e]; exact Nat.zero_le _
      · have e : rdFlag (some (b :: r)) = (((b.toNat : Int) == 1), some r) := by simp [rdFlag, h]
        rw [e]; simp [rdLeft]
theorem rdRow_left (m : Int) (s : Rd) : rdLeft (rdRow m s).2 ≤ rdLeft s := by
  rcases rdNum_cases m s with h | ⟨bs, k, r, rfl, h, _, _, hb⟩
  · rw [rdRow_none h]; exact Nat.zero_le _
  · rw [rdRow_some h]
    split
    · exact Nat.zero_le _
    · simp [rdLeft, hb]; omega

end Go.Proofs.YtkjnlhidnkbelaaGreatDoor

/- Orders and answers in plain Lean: what is put is got as it was; what is got of any bytes is put again as these. -/
namespace Go.Proofs.YtkjnlhidnkbelaaGreatDoor
open Go Go.RowKit

/-! What was read, and what is left, are the bytes. -/
theorem rdNum_inv {m : Int} {s : Rd} {n : Int} {r : List UInt8} (h : rdNum m s = (n, some r)) : s = some (enc n.toNat ++ r) ∧ 0 ≤ n ∧ n ≤ m ∧ n ≤ (topN : Int) := by
  rcases rdNum_cases m s with h1 | ⟨bs, k, r', rfl, h1, h2, h3, h4⟩
  · rw [h1] at h; cases h
  · rw [h1] at h
    injection h with e1 e2
    injection e2 with e2
    subst e1; subst e2
    exact ⟨by rw [h4, Int.toNat_natCast], by omega, h3, by omega⟩
theorem rdFlag_inv {s : Rd} {b : Bool} {r : List UInt8} (h : rdFlag s = (b, some r)) : s = some (flagB b ++ r) := by
  unfold rdFlag at h
  split at h
  · cases h
  · cases h
  · rename_i c t
    split at h
    · cases h
    · rename_i hc
      injection h with e1 e2
      injection e2 with e2
      subst e1; subst e2
      have h2 : c = 0 ∨ c = 1 := by
        have h3 : c.toNat = 0 ∨ c.toNat = 1 := by omega
        rcases h3 with h3 | h3
        · exact .inl (UInt8.toNat_inj.1 (by simpa using h3))
        · exact .inr (UInt8.toNat_inj.1 (by simpa using h3))
      rcases h2 with rfl | rfl <;> rfl
theorem rdRow_inv {m : Int} {s : Rd} {x r : List UInt8} (h : rdRow m s = (x, some r)) : s = some (rowB x ++ r) ∧ (x.length : Int) ≤ m := by
  rcases rdNum_cases m s with h1 | ⟨bs, k, r', rfl, h1, h2, h3, h4⟩
  · rw [rdRow_none h1] at h; cases h
  · rw [rdRow_some h1] at h
    split at h
    · cases h
    · rename_i hk
      injection h with e1 e2
      injection e2 with e2
      have hl : x.length = k := by rw [← e1, List.length_take]; omega
      refine ⟨?_, by omega⟩
      rw [h4]
      congr 1
      unfold rowB
      rw [hl, List.append_assoc, ← e1, ← e2, List.take_append_drop]
/-- A state that is there was there ahead. -/
theorem rdNum_was {m : Int} {s : Rd} {r : List UInt8} (h : (rdNum m s).2 = some r) : rdNum m s = ((rdNum m s).1, some r) := by rw [← h]
theorem rdFlag_was {s : Rd} {r : List UInt8} (h : (rdFlag s).2 = some r) : rdFlag s = ((rdFlag s).1, some r) := by rw [← h]
theorem rdRow_was {m : Int} {s : Rd} {r : List UInt8} (h : (rdRow m s).2 = some r) : rdRow m s = ((rdRow m s).1, some r) := by rw [← h]

theorem rdRdg_inv {s : Rd} {r : List UInt8} (h : (rdRdg s).2 = some r) : s = some (rdgB (rdRdg s).1 ++ r) := by
  have h3 := (rdRow_inv (rdRow_was h)).1
  have h2 := rdFlag_inv (rdFlag_was h3)
  have h1 := (rdRow_inv (rdRow_was h2)).1
  refine h1.trans ?_
  unfold rdgB
  simp only [List.append_assoc]
  rfl
theorem rdRdgs_inv {k : Nat} {s : Rd} {r : List UInt8} (h : (rdRdgs k s).2 = some r) : s = some (rdgsB (rdRdgs k s).1 ++ r) := by
  induction k generalizing r with
  | zero =>
    have h0 : s = some r := h
    rw [h0]; rfl
  | succ k ih =>
    have h1 := rdRdg_inv (s := (rdRdgs k s).2) h
    refine (ih h1).trans ?_
    congr 1
    show _ = rdgsB ((rdRdgs k s).1 ++ [(rdRdg (rdRdgs k s).2).1]) ++ r
    unfold rdgsB
    simp
theorem rdRdgsN_inv {s : Rd} {r : List UInt8} (h : (rdRdgsN s).2 = some r) : s = some ((enc (rdRdgsN s).1.length ++ rdgsB (rdRdgsN s).1) ++ r) := by
  have h1 := rdRdgs_inv (k := (rdNum 6 s).1.toNat) (s := (rdNum 6 s).2) h
  have h2 := (rdNum_inv (rdNum_was h1)).1
  refine h2.trans ?_
  congr 1
  have e : (rdRdgsN s).1.length = (rdNum 6 s).1.toNat := rdRdgs_len _ _
  rw [e, List.append_assoc]
  rfl
theorem sgn_eq (less : Bool) (n : Int) (h0 : 0 ≤ n) (hok : (!less || decide (0 < n)) = true) : decide ((if less = true then -n else n) < 0) = less ∧ (if less = true then -n else n).natAbs = n.toNat := by
  cases less with
  | true =>
    simp at hok
    exact ⟨by simp; omega, by simp only [if_true]; omega⟩
  | false => exact ⟨by simp; omega, by simp only [Bool.false_eq_true, if_false]; omega⟩
theorem rdAct_inv {s : Rd} {r : List UInt8} (h : (rdAct s).2 = some r) (hok : (rdAct s).1.2 = true) : s = some (actB (rdAct s).1.1 ++ r) := by
  have h5 := rdNum_inv (rdNum_was (m := 1073741824) (s := (rdFlag (rdRow 20 (rdRow 20 (rdNum 255 s).2).2).2).2) h)
  have h4 := rdFlag_inv (rdFlag_was h5.1)
  have h3 := (rdRow_inv (rdRow_was h4)).1
  have h2 := (rdRow_inv (rdRow_was h3)).1
  have h1 := (rdNum_inv (rdNum_was h2)).1
  refine h1.trans ?_
  congr 1
  obtain ⟨e1, e2⟩ := sgn_eq _ _ h5.2.1 hok
  unfold actB rdAct
  simp only [List.append_assoc]
  rw [e1, e2]
theorem rdActs_len (k : Nat) (s : Rd) : (rdActs k s).1.1.length = k := by
  induction k with
  | zero => rfl
  | succ k ih => simp [rdActs, ih]
theorem rdActs_inv {k : Nat} {s : Rd} {r : List UInt8} (h : (rdActs k s).2 = some r) (hok : (rdActs k s).1.2 = true) : s = some (actsB (rdActs k s).1.1 ++ r) := by
  induction k generalizing r with
  | zero =>
    have h0 : s = some r := h
    rw [h0]; rfl
  | succ k ih =>
    have hok : ((rdActs k s).1.2 && (rdAct (rdActs k s).2).1.2) = true := hok
    rw [Bool.and_eq_true] at hok
    have h1 := rdAct_inv (s := (rdActs k s).2) h hok.2
    refine (ih h1 hok.1).trans ?_
    congr 1
    show _ = actsB ((rdActs k s).1.1 ++ [(rdAct (rdActs k s).2).1.1]) ++ r
    unfold actsB
    simp
theorem rdActsN_inv {s : Rd} {r : List UInt8} (h : (rdActsN s).2 = some r) (hok : (rdActsN s).1.2 = true) : s = some ((enc (rdActsN s).1.1.length ++ actsB (rdActsN s).1.1) ++ r) := by
  have h1 := rdActs_inv (k := (rdNum 6 s).1.toNat) (s := (rdNum 6 s).2) h hok
  have h2 := (rdNum_inv (rdNum_was h1)).1
  refine h2.trans ?_
  congr 1
  have e : (rdActsN s).1.1.length = (rdNum 6 s).1.toNat := rdActs_len _ _
  rw [e, List.append_assoc]
  rfl
/-- Once an act is none, what is read is none. -/
theorem rdActs_bad {k n : Nat} {s : Rd} (h : (rdActs k s).1.2 = false) (hk : k ≤ n) : (rdActs n s).1.2 = false := by
  induction n with
  | zero =>
    obtain rfl : k = 0 := by omega
    exact h
  | succ n ih =>
    rcases Nat.lt_or_ge k (n + 1) with h1 | h1
    · show ((rdActs n s).1.2 && _) = false
      rw [ih (by omega)]; rfl
    · obtain rfl : k = n + 1 := by omega
      exact h
theorem rdEnd_zero {s : Rd} (h : rdEnd s = 0) : s = some [] := by
  cases s with
  | none => simp [rdEnd] at h
  | some bs =>
    unfold rdEnd at h
    simp only at h
    split at h
    · rename_i hb; rw [hb]
    · cases h
theorem encAll4 (a b c d : Int) : encAll [a, b, c, d] = enc a.toNat ++ (enc b.toNat ++ (enc c.toNat ++ enc d.toNat)) := by simp [encAll]
theorem encAll2 (a b : Int) : encAll [a, b] = enc a.toNat ++ enc b.toNat := by simp [encAll]
theorem ordGet_inv {b : List UInt8} {x : OrdF} (h : ordGet b = some x) : ordOk x = true ∧ ordB x = b := by
  unfold ordGet at h
  split at h
  · rename_i hc
    injection h with h
    simp only [Bool.and_eq_true, decide_eq_true_eq] at hc
    obtain ⟨hok, he, hr⟩ := hc
    have h13 := rdEnd_zero he
    have g13 := (rdRow_inv (rdRow_was (m := 65536) h13)).1
    have g12 := (rdRow_inv (rdRow_was g13)).1
    have g11 := (rdRow_inv (rdRow_was g12)).1
    have g10 := (rdNum_inv (rdNum_was g11)).1
    have g9 := (rdNum_inv (rdNum_was g10)).1
    have g8 := (rdNum_inv (rdNum_was g9)).1
    have g7 := rdRdgsN_inv g8
    have g6 := rdFlag_inv (rdFlag_was g7)
    have g5 := rdActsN_inv g6 hok
    have g4 := (rdNum_inv (rdNum_was g5)).1
    have g3 := (rdNum_inv (rdNum_was g4)).1
    have g2 := (rdNum_inv (rdNum_was g3)).1
    have g1 := (rdNum_inv (rdNum_was g2)).1
    injection g1 with g1
    subst h
    refine ⟨hr, ?_⟩
    refine Eq.trans ?_ g1.symm
    unfold ordB
    rw [encAll4, encAll3]
    simp only [List.append_assoc, List.append_nil]
    rfl
  · cases h
theorem ansGet_inv {b : List UInt8} {x : AnsF} (h : ansGet b = some x) : ansOk x = true ∧ ansB x = b := by
  unfold ansGet at h
  split at h
  · rename_i hc
    injection h with h
    simp only [Bool.and_eq_true, decide_eq_true_eq] at hc
    obtain ⟨he, hr⟩ := hc
    have h13 := rdEnd_zero he
    have g9 := (rdRow_inv (rdRow_was (m := 131072) h13)).1
    have g8 := (rdNum_inv (rdNum_was g9)).1
    have g7 := (rdNum_inv (rdNum_was g8)).1
    have g6 := rdRdgsN_inv g7
    have g5 := rdFlag_inv (rdFlag_was g6)
    have g4 := rdFlag_inv (rdFlag_was g5)
    have g3 := (rdNum_inv (rdNum_was g4)).1
    have g2 := (rdNum_inv (rdNum_was g3)).1
    have g1 := (rdNum_inv (rdNum_was g2)).1
    injection g1 with g1
    subst h
    refine ⟨hr, ?_⟩
    refine Eq.trans ?_ g1.symm
    unfold ansB
    rw [encAll3, encAll2]
    simp only [List.append_assoc, List.append_nil]
    rfl
  · cases h
end Go.Proofs.YtkjnlhidnkbelaaGreatDoor
/- Orders and answers in plain Lean: what is right is put, and read as it was. -/
namespace Go.Proofs.YtkjnlhidnkbelaaGreatDoor
open Go Go.RowKit

theorem only_nm (x : OrdF) (l : List Part) (y : OrdF) : (l.foldl (partTo x) y).nm = if Part.name ∈ l then x.nm else y.nm := by
  induction l generalizing y with
  | nil => simp
  | cons p l ih => rw [List.foldl_cons, ih]; cases p <;> simp [partTo]
theorem only_epoch (x : OrdF) (l : List Part) (y : OrdF) : (l.foldl (partTo x) y).epoch = if Part.epoch ∈ l then x.epoch else y.epoch := by
  induction l generalizing y with
  | nil => simp
  | cons p l ih => rw [List.foldl_cons, ih]; cases p <;> simp [partTo]
theorem only_acts (x : OrdF) (l : List Part) (y : OrdF) : (l.foldl (partTo x) y).acts = if Part.acts ∈ l then x.acts else y.acts := by
  induction l generalizing y with
  | nil => simp
  | cons p l ih => rw [List.foldl_cons, ih]; cases p <;> simp [partTo]
theorem only_reads (x : OrdF) (l : List Part) (y : OrdF) : (l.foldl (partTo x) y).reads = if Part.reads ∈ l then x.reads else y.reads := by
  induction l generalizing y with
  | nil => simp
  | cons p l ih => rw [List.foldl_cons, ih]; cases p <;> simp [partTo]
theorem only_scheme (x : OrdF) (l : List Part) (y : OrdF) : (l.foldl (partTo x) y).scheme = if Part.scheme ∈ l then x.scheme else y.scheme := by
  induction l generalizing y with
  | nil => simp
  | cons p l ih => rw [List.foldl_cons, ih]; cases p <;> simp [partTo]
theorem only_stage (x : OrdF) (l : List Part) (y : OrdF) : (l.foldl (partTo x) y).stage = if Part.stage ∈ l then x.stage else y.stage := by
  induction l generalizing y with
  | nil => simp
  | cons p l ih => rw [List.foldl_cons, ih]; cases p <;> simp [partTo]
theorem only_to (x : OrdF) (l : List Part) (y : OrdF) : (l.foldl (partTo x) y).to = if Part.group ∈ l then x.to else y.to := by
  induction l generalizing y with
  | nil => simp
  | cons p l ih => rw [List.foldl_cons, ih]; cases p <;> simp [partTo]
theorem only_lo (x : OrdF) (l : List Part) (y : OrdF) : (l.foldl (partTo x) y).lo = if Part.stretch ∈ l then x.lo else y.lo := by
  induction l generalizing y with
  | nil => simp
  | cons p l ih => rw [List.foldl_cons, ih]; cases p <;> simp [partTo]
theorem only_hi (x : OrdF) (l : List Part) (y : OrdF) : (l.foldl (partTo x) y).hi = if Part.stretch ∈ l then x.hi else y.hi := by
  induction l generalizing y with
  | nil => simp
  | cons p l ih => rw [List.foldl_cons, ih]; cases p <;> simp [partTo]
theorem only_bytes (x : OrdF) (l : List Part) (y : OrdF) : (l.foldl (partTo x) y).bytes = if Part.load ∈ l then x.bytes else y.bytes := by
  induction l generalizing y with
  | nil => simp
  | cons p l ih => rw [List.foldl_cons, ih]; cases p <;> simp [partTo]

/-- What holds of an order's parts where it is right. -/
structure OrdSm (x : OrdF) : Prop where
  kind : 1 ≤ x.kind ∧ x.kind ≤ 13
  nm : (0 ≤ x.nm.1 ∧ x.nm.1 ≤ 1073741824) ∧ 0 ≤ x.nm.2 ∧ x.nm.2 ≤ 1073741824
  epoch : 0 ≤ x.epoch ∧ x.epoch ≤ 1073741824
  acts : x.acts.length ≤ 6 ∧ ∀ a ∈ x.acts, actOk a = true
  reads : x.reads.length ≤ 6 ∧ ∀ a ∈ x.reads, rdgOk a = true
  scheme : 0 ≤ x.scheme ∧ x.scheme ≤ 1073741824
  stage : 0 ≤ x.stage ∧ x.stage ≤ 1073741824
  to : 0 ≤ x.to ∧ x.to ≤ 1073741824
  lo : x.lo.length ≤ 20
  hi : x.hi.length ≤ 20
  bytes : x.bytes.length ≤ 65536
theorem keyOk_len {s : List UInt8} (h : keyOk s = true) : s.length ≤ 20 := by
  unfold keyOk at h
  simp only [Bool.and_eq_true, decide_eq_true_eq] at h
  exact h.1.2
theorem spanOk_len {lo hi : List UInt8} (h : spanOk lo hi = true) : lo.length ≤ 20 ∧ hi.length ≤ 20 := by
  unfold spanOk at h
  simp only [Bool.and_eq_true, Bool.or_eq_true, decide_eq_true_eq] at h
  refine ⟨?_, ?_⟩
  · rcases h.1 with rfl | h1
    · simp
    · exact keyOk_len h1
  · rcases h.2.1 with rfl | h1
    · simp
    · exact keyOk_len h1
theorem rdgsOk_parts {c : Bool} {l : List Rdg} (h : rdgsOk c l = true) : l.length ≤ 6 ∧ ∀ a ∈ l, rdgOk a = true := by
  unfold rdgsOk at h
  simp only [Bool.and_eq_true, decide_eq_true_eq, List.all_eq_true] at h
  exact ⟨h.1, h.2.2⟩
theorem actsOk_parts {l : List ActT} (h : actsOk l = true) : l.length ≤ 6 ∧ ∀ a ∈ l, actOk a = true := by
  unfold actsOk at h
  simp only [Bool.and_eq_true, decide_eq_true_eq, List.all_eq_true] at h
  exact ⟨h.1.2, h.2⟩
theorem ordOk_sm {x : OrdF} (h : ordOk x = true) : OrdSm x := by
  unfold ordOk at h
  simp only [Bool.and_eq_true, decide_eq_true_eq, List.all_eq_true] at h
  obtain ⟨⟨hk, hp⟩, he⟩ := h
  have hk : 1 ≤ x.kind ∧ x.kind ≤ 13 := of_decide_eq_true hk
  generalize partsOf x.kind = l at hp he
  have e1 := only_nm x l (ordZ x.kind)
  have e2 := only_epoch x l (ordZ x.kind)
  have e3 := only_acts x l (ordZ x.kind)
  have e4 := only_reads x l (ordZ x.kind)
  have e5 := only_scheme x l (ordZ x.kind)
  have e6 := only_stage x l (ordZ x.kind)
  have e7 := only_to x l (ordZ x.kind)
  have e8 := only_lo x l (ordZ x.kind)
  have e9 := only_hi x l (ordZ x.kind)
  have e10 := only_bytes x l (ordZ x.kind)
  have he : l.foldl (partTo x) (ordZ x.kind) = x := he.symm
  rw [he] at e1 e2 e3 e4 e5 e6 e7 e8 e9 e10
  refine ⟨hk, ?_, ?_, ?_, ?_, ?_, ?_, ?_, ?_, ?_, ?_⟩
  · by_cases hm : Part.name ∈ l
    · have h : nmOk x.nm := of_decide_eq_true (hp _ hm)
      unfold nmOk at h
      omega
    · rw [e1, if_neg hm]; simp [ordZ]
  · by_cases hm : Part.epoch ∈ l
    · exact of_decide_eq_true (hp _ hm)
    · rw [e2, if_neg hm]; simp [ordZ]
  · by_cases hm : Part.acts ∈ l
    · exact actsOk_parts (hp _ hm)
    · rw [e3, if_neg hm]; simp [ordZ]
  · by_cases hm : Part.reads ∈ l
    · exact rdgsOk_parts (hp _ hm)
    · rw [e4, if_neg hm]; simp [ordZ]
  · by_cases hm : Part.scheme ∈ l
    · have h : 1 ≤ x.scheme ∧ x.scheme ≤ 1073741824 := of_decide_eq_true (hp _ hm)
      omega
    · rw [e5, if_neg hm]; simp [ordZ]
  · by_cases hm : Part.stage ∈ l
    · have h : 0 ≤ x.stage ∧ x.stage ≤ 20 := of_decide_eq_true (hp _ hm)
      omega
    · rw [e6, if_neg hm]; simp [ordZ]
  · by_cases hm : Part.group ∈ l
    · have h : 1 ≤ x.to ∧ x.to ≤ 4 := of_decide_eq_true (hp _ hm)
      omega
    · rw [e7, if_neg hm]; simp [ordZ]
  · by_cases hm : Part.stretch ∈ l
    · exact (spanOk_len (hp _ hm)).1
    · rw [e8, if_neg hm]; simp [ordZ]
  · by_cases hm : Part.stretch ∈ l
    · exact (spanOk_len (hp _ hm)).2
    · rw [e9, if_neg hm]; simp [ordZ]
  · by_cases hm : Part.load ∈ l
    · exact of_decide_eq_true (hp _ hm)
    · rw [e10, if_neg hm]; simp [ordZ]
/-- What holds of an answer's parts where it is right. -/
structure AnsSm (x : AnsF) : Prop where
  err : 0 ≤ x.err ∧ x.err ≤ 99
  nm : (0 ≤ x.nm.1 ∧ x.nm.1 ≤ 1073741824) ∧ 0 ≤ x.nm.2 ∧ x.nm.2 ≤ 1073741824
  reads : x.reads.length ≤ 6 ∧ ∀ a ∈ x.reads, rdgOk a = true
  scheme : 0 ≤ x.scheme ∧ x.scheme ≤ 1073741824
  stage : 0 ≤ x.stage ∧ x.stage ≤ 1073741824
  bytes : x.bytes.length ≤ 131072
theorem ansOk_sm {x : AnsF} (h : ansOk x = true) : AnsSm x := by
  unfold ansOk at h
  simp only [Bool.and_eq_true, Bool.or_eq_true, decide_eq_true_eq] at h
  obtain ⟨h1, h2, h3, h4, h5, h6⟩ := h
  refine ⟨h1, ?_, rdgsOk_parts h3, h4, by omega, h6⟩
  rcases h2 with h2 | h2
  · rw [h2]; exact ⟨⟨by decide, by decide⟩, by decide, by decide⟩
  · unfold nmOk at h2; omega

theorem actOk_sm {a : ActT} (h : actOk a = true) : (1 ≤ a.kind ∧ a.kind ≤ 3) ∧ a.key.length ≤ 20 ∧ a.val.length ≤ 20 ∧ -1073741824 ≤ a.num ∧ a.num ≤ 1073741824 := by
  unfold actOk at h
  rw [Bool.and_eq_true] at h
  obtain ⟨h1, h2⟩ := h
  have hk := keyOk_len h1
  split at h2
  · simp only [Bool.and_eq_true, decide_eq_true_eq] at h2
    rw [h2.1, h2.2]
    refine ⟨by omega, hk, by simp, by omega, by omega⟩
  · split at h2
    · simp only [Bool.and_eq_true, decide_eq_true_eq] at h2
      rw [h2.2]
      exact ⟨by omega, hk, h2.1.1, by omega, by omega⟩
    · split at h2
      · simp only [Bool.and_eq_true, decide_eq_true_eq] at h2
        rw [h2.1]
        exact ⟨by omega, hk, by simp, h2.2.1, h2.2.2⟩
      · cases h2
end Go.Proofs.YtkjnlhidnkbelaaGreatDoor
