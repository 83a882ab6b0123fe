/- Several texts, laid one behind the other by merge.py: RuJ RulB Mo Or AcA RdQ. -/
import Derived.Test.YtkjnlhidnkbelaaGreatDoorGr2
import Derived.Laws.StructEq
import Derived.Test.YtkjnlhidnkbelaaGreatDoorGr1
/- Rulings: names, reads held against each other; reads of two lists; the document's book: what it has of a name. -/
namespace Go.Proofs.YtkjnlhidnkbelaaGreatDoor
open Go Go.RowKit

theorem eqf_name : Tryz.prog.underlying 25 = some (.struct (Tryz.prog.fieldsOf 25)) := by kernel_rfl
theorem eqf_read : Tryz.prog.underlying 93 = some (.struct (Tryz.prog.fieldsOf 93)) := by kernel_rfl
theorem stood_name : Tryz.prog.stoodInHeld 25 = false := by kernel_rfl
theorem stood_read : Tryz.prog.stoodInHeld 93 = false := by kernel_rfl
theorem name_eq (w : World) (x y : Nm) : (Op.equalIn 10000 25 (.agg #[I64 x.1, I64 x.2]) (.agg #[I64 y.1, I64 y.2])).run Tryz.prog w = .ok (decide (x = y)) w := by
  rw [run_equalIn_agg w 9999 _ _ _ eqf_name stood_name]
  unfold Program.fieldsOf
  simp only [Tryz.underlying25]
  simp [Op.eqFields, go_sem, Tryz.underlying3]
  obtain ⟨a, b⟩ := x
  obtain ⟨c, d⟩ := y
  by_cases h1 : a = c
  · by_cases h2 : b = d
    · simp [h1, h2]
    · simp [h1, h2]
  · simp [h1]
theorem name_eql (w : World) (x y : Nm) : (binOp .eql 25 (.agg #[I64 x.1, I64 x.2]) (.agg #[I64 y.1, I64 y.2])).run Tryz.prog w = .ok (.bool (decide (x = y))) w := by
  rw [run_eql_struct, name_eq]; rfl
theorem read_eq (w : World) (x y : Rdg) : (Op.equalIn 10000 93 (.agg #[StrV x.1, .bool x.2.1, StrV x.2.2]) (.agg #[StrV y.1, .bool y.2.1, StrV y.2.2])).run Tryz.prog w = .ok (decide (x = y)) w := by
  rw [run_equalIn_agg w 9999 _ _ _ eqf_read stood_read]
  unfold Program.fieldsOf
  simp only [Tryz.underlying93]
  simp [Op.eqFields, go_sem, Tryz.underlying9, Tryz.underlying4]
  obtain ⟨a, m, b⟩ := x
  obtain ⟨c, n, d⟩ := y
  by_cases h1 : a = c
  · by_cases h2 : m = n
    · by_cases h3 : b = d
      · simp [h1, h2, h3]
      · simp [h1, h2, h3]
    · simp [h1, h2]
  · simp [h1]
theorem read_eql (w : World) (x y : Rdg) : (binOp .eql 93 (.agg #[StrV x.1, .bool x.2.1, StrV x.2.2]) (.agg #[StrV y.1, .bool y.2.1, StrV y.2.2])).run Tryz.prog w = .ok (.bool (decide (x = y))) w := by
  rw [run_eql_struct, read_eq]; rfl
theorem read_neq (w : World) (x y : Rdg) : (binOp .neq 93 (.agg #[StrV x.1, .bool x.2.1, StrV x.2.2]) (.agg #[StrV y.1, .bool y.2.1, StrV y.2.2])).run Tryz.prog w = .ok (.bool (!decide (x = y))) w := by
  rw [run_neq_struct, read_eq]; rfl

/-- All reads before the k-th are the same. -/
def SameTo (w : World) (a b : List Rdg) (i : Value) (wx : World) : Prop := ∃ k : Nat, k ≤ a.length ∧ i = .int .i64 k ∧ (∀ j (h : j < a.length) (h' : j < b.length), j < k → a[j] = b[j]) ∧ Nw w wx
set_option maxRecDepth 100000 in
theorem sameReads_any (w : World) (F1 F2 : Nat → Prop) (A1 A2 : Option Addr) (c1 c2 : Nat) (a b : List Rdg) (h1 : Sl w F1 A1 (rdgsCells a)) (h2 : Sl w F2 A2 (rdgsCells b)) (hl : a.length ≤ 1000000000) :
    Calls Tryz.prog 68 #[.slice A1 a.length c1, .slice A2 b.length c2] w fun e w' => e = .returned (.bool (decide (a = b))) ∧ Nw w w' := by
  by_cases hlen : a.length = b.length
  · obtain ⟨n, hn⟩ : ∃ n, n = a.length := ⟨_, rfl⟩
    have hnb : n = b.length := hn.trans hlen
    rw [← hlen, ← hn]
    have HA := Lib.hid hn
    have HB := Lib.hid hnb
    have hl : n ≤ 1000000000 := by omega
    clear hn hnb hlen
    go_enter Tryz.func68, Tryz.ntmps68
    go_wp2_with fail
    go_loopw [5] (fun i wx => SameTo w a b i wx) (fun i _ => n - (intOf i).toNat)
    case atStart => exact ⟨0, Nat.zero_le _, rfl, fun _ _ _ h => by omega, Fr.refl _ _⟩
    case round =>
      obtain ⟨k, hk, rfl, hok, hq⟩ := hrel
      have HK := Lib.hid hok
      have hkn : k ≤ n := by rw [HA.out]; exact hk
      clear hok hk
      by_cases hlt : k < n
      · have hka : k < a.length := by rw [← HA.out]; exact hlt
        have hkb : k < b.length := by rw [← HB.out]; exact hlt
        obtain ⟨b1, o1, rfl, _, x1, x2, x3⟩ := (h1.fr hq (fun _ _ h => h)).rdg hka
        obtain ⟨b2, o2, rfl, _, y1, y2, y3⟩ := (h2.fr hq (fun _ _ h => h)).rdg hkb
        have hne := fun w => read_neq w a[k] b[k]
        obtain ⟨p, hp⟩ : ∃ p, decide (a[k] = b[k]) = p := ⟨_, rfl⟩
        rw [hp] at hne
        have HP := Lib.hid hp
        clear hp
        generalize a[k] = x at x1 x2 x3 hne
        generalize b[k] = y at y1 y2 y3 hne
        have d1 := fun (n : Later wr) => n.cell x1
        have d2 := fun (n : Later wr) => n.cell x2
        have d3 := fun (n : Later wr) => n.cell x3
        have d4 := fun (n : Later wr) => n.cell y1
        have d5 := fun (n : Later wr) => n.cell y2
        have d6 := fun (n : Later wr) => n.cell y3
        clear x1 x2 x3 y1 y2 y3
        go_wp2_with fail
        refine wp_region_later (by kernel_rfl) (by kernel_rfl) ?_
        repeat (go_big_quiet_step (fail))
        refine wpQuiet_later fun w5 q5 => ?_
        cases p
        · go_wp2_with fail
          go_ret
          refine ⟨retB (decide_eq_false fun e => ?_).symm, hq.tr q5⟩
          subst e
          have := HP.out
          simp at this
        · go_wp2_with fail
          go_roundw
          case rel =>
            refine ⟨k + 1, by omega, rfl, fun j h3 h4 hjk => ?_, hq.tr q5⟩
            by_cases hjk2 : j < k
            · exact HK.out j h3 h4 hjk2
            · obtain rfl : j = k := by omega
              exact of_decide_eq_true HP.out
          case measure => simp [intOf]; omega
      · go_wp2_with fail
        go_ret
        refine ⟨retB (decide_eq_true (List.ext_getElem (by rw [← HA.out, ← HB.out]) fun j h3 h4 => HK.out j h3 h4 (by have := HA.out; omega))).symm, hq⟩
  · have hne : ¬ (a.length : Int) = (b.length : Int) := by omega
    go_enter Tryz.func68, Tryz.ntmps68
    go_wp2_with fail
    go_ret
    exact ⟨retB (decide_eq_false fun e => hlen (by rw [e])).symm, Fr.refl _ _⟩
/-- All names before the k-th are others. -/
def OfRel (w : World) (n : Nm) (l : List Ver) (i : Value) (wx : World) : Prop := ∃ k : Nat, k ≤ l.length ∧ i = .int .i64 k ∧ (∀ j (h : j < l.length), j < k → l[j].1 ≠ n) ∧ Nw w wx
theorem findV_at {n : Nm} {l : List Ver} {k : Nat} (hk : k < l.length) (h : ∀ j (h : j < l.length), j < k → l[j].1 ≠ n) (he : l[k].1 = n) : findV n l = some l[k] := by
  induction l generalizing k with
  | nil => simp at hk
  | cons v l ih =>
    unfold findV
    cases k with
    | zero => rw [if_pos (by simpa using he)]; rfl
    | succ k =>
      have h0 : ¬ v.1 = n := h 0 (Nat.zero_lt_succ _) (Nat.zero_lt_succ _)
      rw [if_neg h0]
      exact ih (by simpa using hk) (fun j hj hjk => h (j + 1) (Nat.succ_lt_succ hj) (Nat.succ_lt_succ hjk)) (by simpa using he)
end Go.Proofs.YtkjnlhidnkbelaaGreatDoor
/- Rulings in plain Lean: a book as bytes is read as it was; the first verdict stands. -/
namespace Go.Proofs.YtkjnlhidnkbelaaGreatDoor
open Go Go.RowKit

theorem rdNum_of (m : Int) (n : Nat) (r : List UInt8) (h : (n : Int) ≤ m) (ht : n ≤ topN) : rdNum m (some (enc n ++ r)) = ((n : Int), some r) := rdNum_ok m (decN_of_enc n r ht) (by omega)
theorem rdRow_of (m : Int) (s r : List UInt8) (h : (s.length : Int) ≤ m) (ht : s.length ≤ topN) : rdRow m (some (rowB s ++ r)) = (s, some r) := by
  unfold rowB
  rw [List.append_assoc, rdRow_some (rdNum_of m s.length (s ++ r) h ht), if_neg (by simp), List.take_left, List.drop_left]
theorem rdFlag_of (b : Bool) (r : List UInt8) : rdFlag (some (flagB b ++ r)) = (b, some r) := by cases b <;> rfl
theorem verOk_parts {v : Ver} (h : verOk v = true) : nmOk v.1 ∧ (1 ≤ v.2.2.1 ∧ v.2.2.1 ≤ 1073741824) ∧ v.2.2.2.length ≤ 6 ∧ (v.2.1 = true ∨ v.2.2.2 = []) ∧ ∀ r ∈ v.2.2.2, rdgOk r = true := by
  unfold verOk at h
  simp only [Bool.and_eq_true, Bool.or_eq_true, decide_eq_true_eq, List.all_eq_true, List.length_eq_zero_iff] at h
  exact ⟨h.1, h.2.1, h.2.2.1, h.2.2.2.1, h.2.2.2.2⟩
theorem rdgOk_len {r : Rdg} (h : rdgOk r = true) : r.1.length ≤ 20 ∧ r.2.2.length ≤ 20 := by
  unfold rdgOk keyOk at h
  simp only [Bool.and_eq_true, Bool.or_eq_true, decide_eq_true_eq] at h
  exact ⟨h.1.1.2, h.2.1⟩
theorem rdRdg_of {x : Rdg} (h : rdgOk x = true) (r : List UInt8) : rdRdg (some (rdgB x ++ r)) = (x, some r) := by
  obtain ⟨h1, h2⟩ := rdgOk_len h
  unfold rdRdg rdgB
  simp only [List.append_assoc]
  rw [rdRow_of 20 x.1 _ (by omega) (by unfold topN; omega)]
  simp only
  rw [rdFlag_of]
  simp only
  rw [rdRow_of 20 x.2.2 _ (by omega) (by unfold topN; omega)]
theorem rdRdgs_of (l : List Rdg) (h : ∀ x ∈ l, rdgOk x = true) (r : List UInt8) (k : Nat) (hk : k ≤ l.length) : rdRdgs k (some (rdgsB l ++ r)) = (l.take k, some (rdgsB (l.drop k) ++ r)) := by
  induction k with
  | zero => rfl
  | succ k ih =>
    have hlt : k < l.length := hk
    have e : rdgsB (l.drop k) ++ r = rdgB l[k] ++ (rdgsB (l.drop (k + 1)) ++ r) := by
      unfold rdgsB
      rw [List.drop_eq_getElem_cons hlt, List.map_cons, List.flatten_cons, List.append_assoc]
    rw [rdRdgs, ih (by omega), e]
    simp only
    rw [rdRdg_of (h _ (List.getElem_mem hlt)), List.take_succ_eq_append_getElem hlt]
theorem encAll3 (a b c : Int) : encAll [a, b, c] = enc a.toNat ++ (enc b.toNat ++ enc c.toNat) := by simp [encAll]
theorem rdVer_of {v : Ver} (h : verOk v = true) (r : List UInt8) : rdVer (some (verB v ++ r)) = (v, some r) := by
  obtain ⟨⟨n1, n2, n3, n4⟩, ⟨a1, a2⟩, hl, _, hr⟩ := verOk_parts h
  have e : rdVerN (some (verB v ++ r)) = ((v.1.1, v.1.2, v.2.2.1, v.2.1, (v.2.2.2.length : Int)), some (rdgsB v.2.2.2 ++ r)) := by
    unfold rdVerN verB
    rw [encAll3]
    simp only [List.append_assoc]
    rw [rdNum_of _ _ _ (by omega) (by unfold topN; omega)]
    simp only
    rw [rdNum_of _ _ _ (by omega) (by unfold topN; omega)]
    simp only
    rw [rdNum_of _ _ _ (by omega) (by unfold topN; omega)]
    simp only
    rw [rdFlag_of]
    simp only
    rw [rdNum_of _ _ _ (by omega) (by unfold topN; omega)]
    simp only
    rw [Int.toNat_of_nonneg (by omega), Int.toNat_of_nonneg (by omega), Int.toNat_of_nonneg (by omega)]
  unfold rdVer
  rw [e]
  simp only [Int.toNat_natCast]
  rw [rdRdgs_of _ hr r _ (Nat.le_refl _), List.take_length, List.drop_length]
  rfl
theorem BookOk.take {l : List Ver} (h : BookOk l) (k : Nat) : BookOk (l.take k) :=
  ⟨fun v hv => h.1 v (List.mem_of_mem_take hv), h.2.1.sublist (List.take_sublist _ _), h.2.2.sublist (List.take_sublist _ _)⟩
theorem take_ahead {l : List Ver} (h : BookOk l) (k : Nat) (hk : k < l.length) : findV l[k].1 (l.take k) = none ∧ ¬ l[k].2.2.1 ≤ lastAt (l.take k) := by
  have hs : l.take (k + 1) = l.take k ++ [l[k]] := List.take_succ_eq_append_getElem hk
  have h1 := h.take (k + 1)
  rw [hs] at h1
  have h2 := List.pairwise_append.1 h1.2.1
  have h3 := List.pairwise_append.1 h1.2.2
  refine ⟨findV_none.2 fun v hv => h3.2.2 v hv _ (by simp), ?_⟩
  rcases List.eq_nil_or_concat (l.take k) with he | ⟨m, y, he⟩
  · rw [he]
    have := (verOk_parts (h.1 _ (List.getElem_mem hk))).2.1
    simp [lastAt]
    omega
  · rw [he, List.concat_eq_append, lastAt_snoc]
    have := h2.2.2 y (by rw [he]; simp) l[k] (by simp)
    omega
/-- A book's verdicts, decided one behind the other, are the book. -/
theorem decV_take {l : List Ver} (h : BookOk l) (k : Nat) (hk : k < l.length) : decV (l.take k) l[k] = (l[k], 0, l.take (k + 1)) := by
  obtain ⟨h1, h2⟩ := take_ahead h k hk
  rw [decV_new (h.1 _ (List.getElem_mem hk)) h1 h2, List.take_succ_eq_append_getElem hk]
theorem bkN_of (l : List Ver) (h : BookOk l) (k : Nat) (hk : k ≤ l.length) : bkN k (some ([], some (versB l))) = some (l.take k, some (versB (l.drop k))) := by
  induction k with
  | zero => rfl
  | succ k ih =>
    have hlt : k < l.length := hk
    have e : versB (l.drop k) = verB l[k] ++ versB (l.drop (k + 1)) := by
      unfold versB
      rw [List.drop_eq_getElem_cons hlt, List.map_cons, List.flatten_cons]
    have hv := rdVer_of (h.1 _ (List.getElem_mem hlt)) (versB (l.drop (k + 1)))
    have hd := decV_take h k hlt
    rw [bkN, ih (by omega), e, bkStep_yes (by rw [hv]; exact (take_ahead h k hlt).1) (by rw [hv]; simp) (by rw [hv, hd]), hv, hd]
theorem rdBook_of (l : List Ver) (h : BookOk l) (hl : l.length ≤ 1073741824) : rdBook (some (bookB l)) = some (l, some []) := by
  unfold rdBook bookB
  rw [rdNum_of _ _ _ (by omega) (by unfold topN; omega)]
  simp only [Int.toNat_natCast]
  rw [bkN_of l h _ (Nat.le_refl _), List.take_length, List.drop_length]
  rfl
end Go.Proofs.YtkjnlhidnkbelaaGreatDoor
/- Movers: what they are, and what each deed makes and tells, as plain functions. -/
namespace Go.Proofs.YtkjnlhidnkbelaaGreatDoor
open Go

/-- A handoff. -/
structure Sch where
  num : Int
  lo : List UInt8
  hi : List UInt8
  src : Int
  dst : Int
  epoch : Int
  under : Int
  stage : Int
/-- The orders that a mover asks: all else of them is nothing. -/
structure Ord where
  kind : Int
  epoch : Int
  num : Int
  stage : Int
  lo : List UInt8
  hi : List UInt8
  bytes : List UInt8
structure AskT where
  tag : Int
  group : Int
  ord : Ord
structure Mv where
  line : Option AskT
  since : Int
  next : Int
  works : Option Sch
  bytes : List UInt8
def spanOk (lo hi : List UInt8) : Bool := (decide (lo = []) || keyOk lo) && ((decide (hi = []) || keyOk hi) && (decide (hi = []) || Go.Op.bytesLess lo hi))
def underOk (x : Sch) : Bool := if 4 ≤ x.stage ∧ x.stage ≤ 6 then decide (x.epoch < x.under ∧ x.under ≤ 1073741824) else decide (x.under = 0)
def schOk (x : Sch) : Bool :=
  decide (1 ≤ x.num ∧ x.num ≤ 1073741824) && (spanOk x.lo x.hi && (decide ((1 ≤ x.src ∧ x.src ≤ 4) ∧ (1 ≤ x.dst ∧ x.dst ≤ 4) ∧ x.src ≠ x.dst) && (decide (1 ≤ x.epoch ∧ x.epoch ≤ 1073741824) && (decide (1 ≤ x.stage ∧ x.stage ≤ 9) && underOk x))))
def schOver (x : Sch) : Bool := decide (x.stage = 6) || decide (x.stage = 9)
def askM (s : Mv) (group : Int) (o : Ord) : Mv × List AskT := ({ s with line := some ⟨s.next, group, o⟩, since := 0, next := s.next + 1 }, [⟨s.next, group, o⟩])
def stepO (num stage : Int) : Ord := ⟨12, 0, num, stage, [], [], []⟩
def freezeO (x : Sch) : Ord := ⟨3, x.epoch, x.num, 0, x.lo, x.hi, []⟩
def absorbO (x : Sch) (bs : List UInt8) : Ord := ⟨5, 0, x.num, 0, x.lo, x.hi, bs⟩
def plainO (kind num : Int) : Ord := ⟨kind, 0, num, 0, [], [], []⟩
def openO (x : Sch) : Ord := ⟨6, x.under, x.num, 0, [], [], []⟩
/-- What is asked first at a stage. -/
def firstM (s : Mv) (x : Sch) : Mv × List AskT :=
  if x.stage = 1 then askM s x.src (freezeO x)
  else if x.stage = 2 then (if s.bytes = [] then askM s x.src (freezeO x) else askM s x.dst (absorbO x s.bytes))
  else if x.stage = 3 then askM s 0 (stepO x.num 4)
  else if x.stage = 4 then askM s x.dst (openO x)
  else if x.stage = 5 then askM s x.src (plainO 7 x.num)
  else if x.stage = 7 then askM s x.src (plainO 4 x.num)
  else askM s x.dst (plainO 8 x.num)
def againM (s : Mv) : Mv × List AskT := match s.line with
  | none => (s, [])
  | some a => if s.since + 1 < 5 then ({ s with since := s.since + 1 }, []) else ({ s with since := 0 }, [a])
def sameAt (s : Mv) (x : Sch) : Bool := match s.works with
  | none => false
  | some y => decide (y.num = x.num ∧ y.stage = x.stage)
def sameNum (s : Mv) (x : Sch) : Bool := match s.works with
  | none => false
  | some y => decide (y.num = x.num)
def idleM (s : Mv) : Mv := ⟨none, 0, s.next, none, []⟩
def tickM (s : Mv) (x : Sch) (under : Bool) : Mv × List AskT :=
  if (under && (schOk x && !schOver x)) = false then (idleM s, [])
  else if sameAt s x = true then againM s
  else firstM { s with works := some x, bytes := if sameNum s x = true then s.bytes else [] } x
/-- Where it works: its handoff's number and stage, 0 and 0 where it works at nothing. -/
def worksN (s : Mv) : Int × Int := match s.works with
  | none => (0, 0)
  | some x => (x.num, x.stage)
def frozenM (s : Mv) (x : Sch) (err : Int) (bs : List UInt8) : Mv × List AskT :=
  if err ≠ 0 ∨ 65536 < bs.length then askM s 0 (stepO x.num 7)
  else if bs = [] then ({ s with since := 0 }, [])
  else if x.stage = 1 then askM { s with bytes := bs } 0 (stepO x.num 2)
  else askM { s with bytes := bs } x.dst (absorbO x bs)
def doneStage (kind : Int) : Int := if kind = 6 then 5 else if kind = 7 then 6 else if kind = 4 then 8 else 9
def answerM (s : Mv) (tag err : Int) (bs : List UInt8) : Mv × List AskT := match s.line, s.works with
  | some a, some x =>
    if a.tag ≠ tag then (s, [])
    else if a.ord.kind = 3 then frozenM s x err bs
    else if a.ord.kind = 5 then askM s 0 (stepO x.num (if err = 0 then 3 else 7))
    else if a.ord.kind = 12 then (if err ≠ 0 ∧ a.ord.stage = 4 then askM s 0 (stepO x.num 7) else ({ s with line := none, since := 0 }, []))
    else if err ≠ 0 then ({ s with since := 0 }, [])
    else askM s 0 (stepO x.num (doneStage a.ord.kind))
  | _, _ => (s, [])
def newM (first : Int) : Mv := ⟨none, 0, first + 1, none, []⟩
/-- What holds of each mover that was made, ticked, answered. -/
structure MvOk (s : Mv) : Prop where
  works : ∀ x, s.works = some x → schOk x = true ∧ schOver x = false
  line : s.line ≠ none → s.works ≠ none
  kind : ∀ a, s.line = some a → a.ord.kind = 3 ∨ a.ord.kind = 4 ∨ a.ord.kind = 5 ∨ a.ord.kind = 6 ∨ a.ord.kind = 7 ∨ a.ord.kind = 8 ∨ a.ord.kind = 12
  idle : s.works = none → s.bytes = []
end Go.Proofs.YtkjnlhidnkbelaaGreatDoor
/- Orders and answers in plain Lean: which are right, their bytes, and bytes read as such. No program in sight. -/
namespace Go.Proofs.YtkjnlhidnkbelaaGreatDoor
open Go Go.RowKit

/-- An act. -/
structure ActT where
  kind : Int
  key : List UInt8
  val : List UInt8
  num : Int
deriving DecidableEq
/-- An order. -/
structure OrdF where
  kind : Int
  nm : Nm
  epoch : Int
  acts : List ActT
  commit : Bool
  reads : List Rdg
  scheme : Int
  stage : Int
  to : Int
  lo : List UInt8
  hi : List UInt8
  bytes : List UInt8
deriving DecidableEq
/-- An answer. -/
structure AnsF where
  err : Int
  nm : Nm
  is : Bool
  commit : Bool
  reads : List Rdg
  scheme : Int
  stage : Int
  bytes : List UInt8
deriving DecidableEq
def ordZ (kind : Int) : OrdF := ⟨kind, (0, 0), 0, [], false, [], 0, 0, 0, [], [], []⟩
def ansZ : AnsF := ⟨0, (0, 0), false, false, [], 0, 0, []⟩

/-- A letter of a value. -/
def valCh (b : UInt8) : Bool := keyCh b || decide (b.toNat = 45)
def actOk (a : ActT) : Bool :=
  keyOk a.key && (if a.kind = 1 then decide (a.val = []) && decide (a.num = 0)
    else if a.kind = 2 then (decide (a.val.length ≤ 20) && a.val.all valCh) && decide (a.num = 0)
    else if a.kind = 3 then decide (a.val = []) && decide (-1073741824 ≤ a.num ∧ a.num ≤ 1073741824)
    else false)
def actsOk (l : List ActT) : Bool := decide (1 ≤ l.length ∧ l.length ≤ 6) && l.all actOk
def rdgsOk (commit : Bool) (l : List Rdg) : Bool := decide (l.length ≤ 6) && ((commit || decide (l = [])) && l.all rdgOk)

/-- The parts of orders. -/
inductive Part where
  | name | epoch | acts | commit | reads | scheme | stage | group | stretch | load
deriving DecidableEq
/-- A part is right. -/
def partOk (x : OrdF) : Part → Bool
  | .name => decide (nmOk x.nm)
  | .epoch => decide (0 ≤ x.epoch ∧ x.epoch ≤ 1073741824)
  | .acts => actsOk x.acts
  | .commit => true
  | .reads => rdgsOk x.commit x.reads
  | .scheme => decide (1 ≤ x.scheme ∧ x.scheme ≤ 1073741824)
  | .stage => decide (0 ≤ x.stage ∧ x.stage ≤ 20)
  | .group => decide (1 ≤ x.to ∧ x.to ≤ 4)
  | .stretch => spanOk x.lo x.hi
  | .load => decide (x.bytes.length ≤ 65536)
/-- A part taken over. -/
def partTo (x y : OrdF) : Part → OrdF
  | .name => { y with nm := x.nm }
  | .epoch => { y with epoch := x.epoch }
  | .acts => { y with acts := x.acts }
  | .commit => { y with commit := x.commit }
  | .reads => { y with reads := x.reads }
  | .scheme => { y with scheme := x.scheme }
  | .stage => { y with stage := x.stage }
  | .group => { y with to := x.to }
  | .stretch => { y with lo := x.lo, hi := x.hi }
  | .load => { y with bytes := x.bytes }
/-- What each kind has. -/
def partsOf (kind : Int) : List Part :=
  if kind = 1 then [.name, .epoch, .acts]
  else if kind = 2 then [.name, .commit]
  else if kind = 3 then [.scheme, .stretch, .epoch]
  else if kind = 4 then [.scheme]
  else if kind = 5 then [.scheme, .stretch, .load]
  else if kind = 6 then [.scheme, .epoch]
  else if kind = 7 then [.scheme]
  else if kind = 8 then [.scheme]
  else if kind = 9 then [.name, .commit, .reads]
  else if kind = 10 then [.name]
  else if kind = 11 then [.stretch, .group]
  else if kind = 12 then [.scheme, .stage]
  else []
def kindOk (kind : Int) : Bool := decide (1 ≤ kind ∧ kind ≤ 13)
def onlyF (x : OrdF) (l : List Part) : OrdF := l.foldl (partTo x) (ordZ x.kind)
def ordOk (x : OrdF) : Bool := (kindOk x.kind && (partsOf x.kind).all (partOk x)) && decide (x = onlyF x (partsOf x.kind))
def ansOk (x : AnsF) : Bool :=
  decide (0 ≤ x.err ∧ x.err ≤ 99) && ((decide (x.nm = (0, 0)) || decide (nmOk x.nm)) && (rdgsOk true x.reads && (decide (0 ≤ x.scheme ∧ x.scheme ≤ 1073741824) && (decide (0 ≤ x.stage ∧ x.stage ≤ 20) && decide (x.bytes.length ≤ 131072)))))

/-- As bytes. -/
def actB (a : ActT) : List UInt8 := enc a.kind.toNat ++ (rowB a.key ++ (rowB a.val ++ (flagB (decide (a.num < 0)) ++ enc a.num.natAbs)))
def actsB (l : List ActT) : List UInt8 := (l.map actB).flatten
def ordB (x : OrdF) : List UInt8 :=
  encAll [x.kind, x.nm.1, x.nm.2, x.epoch] ++ ((enc x.acts.length ++ actsB x.acts) ++ (flagB x.commit ++ ((enc x.reads.length ++ rdgsB x.reads) ++ (encAll [x.scheme, x.stage, x.to] ++ (rowB x.lo ++ (rowB x.hi ++ rowB x.bytes))))))
def ansB (x : AnsF) : List UInt8 :=
  encAll [x.err, x.nm.1, x.nm.2] ++ (flagB x.is ++ (flagB x.commit ++ ((enc x.reads.length ++ rdgsB x.reads) ++ (encAll [x.scheme, x.stage] ++ rowB x.bytes))))

/-- What is read. -/
def rdAct (s : Rd) : (ActT × Bool) × Rd :=
  let k := rdNum 255 s
  let key := rdRow 20 k.2
  let v := rdRow 20 key.2
  let less := rdFlag v.2
  let n := rdNum 1073741824 less.2
  ((⟨k.1, key.1, v.1, if less.1 = true then -n.1 else n.1⟩, !less.1 || decide (0 < n.1)), n.2)
def rdActs : Nat → Rd → (List ActT × Bool) × Rd
  | 0, s => (([], true), s)
  | k + 1, s => (((rdActs k s).1.1 ++ [(rdAct (rdActs k s).2).1.1], (rdActs k s).1.2 && (rdAct (rdActs k s).2).1.2), (rdAct (rdActs k s).2).2)
def rdRdgsN (s : Rd) : List Rdg × Rd := rdRdgs (rdNum 6 s).1.toNat (rdNum 6 s).2
def rdActsN (s : Rd) : (List ActT × Bool) × Rd := rdActs (rdNum 6 s).1.toNat (rdNum 6 s).2
def rdOrd (s : Rd) : (OrdF × Bool) × Rd :=
  let kind := rdNum 255 s
  let c := rdNum 1073741824 kind.2
  let n := rdNum 1073741824 c.2
  let ep := rdNum 1073741824 n.2
  let a := rdActsN ep.2
  let cm := rdFlag a.2
  let r := rdRdgsN cm.2
  let sc := rdNum 1073741824 r.2
  let st := rdNum 1073741824 sc.2
  let to := rdNum 1073741824 st.2
  let lo := rdRow 20 to.2
  let hi := rdRow 20 lo.2
  let bs := rdRow 65536 hi.2
  ((⟨kind.1, (c.1, n.1), ep.1, a.1.1, cm.1, r.1, sc.1, st.1, to.1, lo.1, hi.1, bs.1⟩, a.1.2), bs.2)
def rdAns (s : Rd) : AnsF × Rd :=
  let er := rdNum 99 s
  let c := rdNum 1073741824 er.2
  let n := rdNum 1073741824 c.2
  let is := rdFlag n.2
  let cm := rdFlag is.2
  let r := rdRdgsN cm.2
  let sc := rdNum 1073741824 r.2
  let st := rdNum 1073741824 sc.2
  let bs := rdRow 131072 st.2
  (⟨er.1, (c.1, n.1), is.1, cm.1, r.1, sc.1, st.1, bs.1⟩, bs.2)
def ordGet (b : List UInt8) : Option OrdF :=
  if ((rdOrd (some b)).1.2 && (decide (rdEnd (rdOrd (some b)).2 = 0) && ordOk (rdOrd (some b)).1.1)) = true then some (rdOrd (some b)).1.1 else none
def ansGet (b : List UInt8) : Option AnsF :=
  if (decide (rdEnd (rdAns (some b)).2 = 0) && ansOk (rdAns (some b)).1) = true then some (rdAns (some b)).1 else none
end Go.Proofs.YtkjnlhidnkbelaaGreatDoor
/- Acts in memory; held against each other. -/
namespace Go.Proofs.YtkjnlhidnkbelaaGreatDoor
open Go Go.RowKit

theorem info_act : (Tryz.prog.info? 91).map (fun i => (i.zero, i.size, i.bytes)) = some (some (.agg #[.int .u8 0, .string ⟨#[]⟩, .string ⟨#[]⟩, .int .i64 0]), 4, 48) := by kernel_rfl
theorem act_size : (Tryz.prog.info? 91).map (·.size) = some 4 := by kernel_rfl
def actCells (r : ActT) : List Value := [.int .u8 r.kind, StrV r.key, StrV r.val, I64 r.num]
def actsCells (l : List ActT) : List Value := (l.map actCells).flatten
theorem actsCells_cons (r : ActT) (l : List ActT) : actsCells (r :: l) = actCells r ++ actsCells l := rfl
theorem actsCells_append (a b : List ActT) : actsCells (a ++ b) = actsCells a ++ actsCells b := by simp [actsCells]
theorem actsCells_len (l : List ActT) : (actsCells l).length = l.length * 4 := by
  induction l with
  | nil => rfl
  | cons r l ih => rw [actsCells_cons, List.length_append, ih]; simp [actCells]; omega
theorem actsCells_one (l : List ActT) : ∀ u ∈ actsCells l, u.oneCell' = true := by
  intro u hu
  obtain ⟨x, hx, hu⟩ := List.mem_flatten.1 hu
  obtain ⟨r, _, rfl⟩ := List.mem_map.1 hx
  simp [actCells] at hu
  rcases hu with rfl | rfl | rfl | rfl <;> rfl
theorem actsCells_at (l : List ActT) (k : Nat) (h : k < l.length) (j : Nat) (hj : j < 4) : (actsCells l)[k * 4 + j]? = (actCells l[k])[j]? := by
  induction l generalizing k with
  | nil => simp at h
  | cons r l ih =>
    rw [actsCells_cons]
    cases k with
    | zero => rw [List.getElem?_append_left (by simp [actCells]; omega)]; simp
    | succ k =>
      rw [List.getElem?_append_right (by simp [actCells]; omega)]
      have := ih k (by simpa using h)
      rw [List.getElem_cons_succ, ← this]
      congr 1
      simp [actCells]
      omega
theorem actsCells_take (l : List ActT) (k : Nat) : (actsCells l).take (k * 4) = actsCells (l.take k) := by
  induction l generalizing k with
  | nil => simp [actsCells]
  | cons r l ih =>
    cases k with
    | zero => simp [actsCells]
    | succ k =>
      rw [actsCells_cons, List.take_succ_cons, actsCells_cons, List.take_append, ← ih k]
      have e1 : (actCells r).length = 4 := rfl
      rw [List.take_of_length_le (by rw [e1]; omega), e1]
      congr 2
      omega

theorem Sl.act {w : World} {F : Nat → Prop} {A : Option Addr} {l : List ActT} (h : Sl w F A (actsCells l)) {k : Nat} (hk : k < l.length) :
    ∃ b o, A = some ⟨b, o, none⟩ ∧ F b ∧ w.cell? ⟨b, o + k * 4, none⟩ = some (.int .u8 l[k].kind) ∧ w.cell? ⟨b, o + k * 4 + 1, none⟩ = some (StrV l[k].key) ∧ w.cell? ⟨b, o + k * 4 + 2, none⟩ = some (StrV l[k].val) ∧ w.cell? ⟨b, o + k * 4 + 3, none⟩ = some (I64 l[k].num) := by
  obtain ⟨b, o, hA, hF, _, hc⟩ := h.at_ (by intro e; have := congrArg List.length e; rw [actsCells_len] at this; simp at this; omega)
  exact ⟨b, o, hA, hF, by have := hc (k * 4 + 0) _ (actsCells_at l k hk 0 (by omega)); simpa using this, by rw [Nat.add_assoc]; exact hc _ _ (actsCells_at l k hk 1 (by omega)), by rw [Nat.add_assoc]; exact hc _ _ (actsCells_at l k hk 2 (by omega)), by rw [Nat.add_assoc]; exact hc _ _ (actsCells_at l k hk 3 (by omega))⟩
theorem eqf_act : Tryz.prog.underlying 91 = some (.struct (Tryz.prog.fieldsOf 91)) := by kernel_rfl
theorem stood_act : Tryz.prog.stoodInHeld 91 = false := by kernel_rfl
/-- An act as a value. -/
abbrev ActV (x : ActT) : Value := .agg #[.int .u8 x.kind, StrV x.key, StrV x.val, I64 x.num]
theorem act_eq (w : World) (x y : ActT) : (Op.equalIn 10000 91 (ActV x) (ActV y)).run Tryz.prog w = .ok (decide (x = y)) w := by
  rw [run_equalIn_agg w 9999 _ _ _ eqf_act stood_act]
  unfold Program.fieldsOf
  simp only [Tryz.underlying91]
  simp [Op.eqFields, go_sem, Tryz.underlying9, Tryz.underlying3, Tryz.underlying89]
  obtain ⟨a, m, b, n⟩ := x
  obtain ⟨c, p, d, q⟩ := y
  by_cases h1 : a = c
  · by_cases h2 : m = p
    · by_cases h3 : b = d
      · by_cases h4 : n = q
        · simp [h1, h2, h3, h4]
        · simp [h1, h2, h3, h4]
      · simp [h1, h2, h3]
    · simp [h1, h2]
  · simp [h1]
theorem act_eql (w : World) (x y : ActT) : (binOp .eql 91 (ActV x) (ActV y)).run Tryz.prog w = .ok (.bool (decide (x = y))) w := by
  rw [run_eql_struct, act_eq]; rfl
theorem act_neq (w : World) (x y : ActT) : (binOp .neq 91 (ActV x) (ActV y)).run Tryz.prog w = .ok (.bool (!decide (x = y))) w := by
  rw [run_neq_struct, act_eq]; rfl
/-- All acts before the k-th are the same. -/
def SameAcTo (w : World) (a b : List ActT) (i : Value) (wx : World) : Prop := ∃ k : Nat, k ≤ a.length ∧ i = .int .i64 k ∧ (∀ j (h : j < a.length) (h' : j < b.length), j < k → a[j] = b[j]) ∧ Nw w wx
set_option maxRecDepth 100000 in
theorem sameActs_any (w : World) (F1 F2 : Nat → Prop) (A1 A2 : Option Addr) (c1 c2 : Nat) (a b : List ActT) (h1 : Sl w F1 A1 (actsCells a)) (h2 : Sl w F2 A2 (actsCells b)) (hl : a.length ≤ 1000000000) :
    Calls Tryz.prog 67 #[.slice A1 a.length c1, .slice A2 b.length c2] w fun e w' => e = .returned (.bool (decide (a = b))) ∧ Nw w w' := by
  by_cases hlen : a.length = b.length
  · obtain ⟨n, hn⟩ : ∃ n, n = a.length := ⟨_, rfl⟩
    have hnb : n = b.length := hn.trans hlen
    rw [← hlen, ← hn]
    have HA := Lib.hid hn
    have HB := Lib.hid hnb
    have hl : n ≤ 1000000000 := by omega
    clear hn hnb hlen
    go_enter Tryz.func67, Tryz.ntmps67
    go_wp2_with fail
    go_loopw [5] (fun i wx => SameAcTo w a b i wx) (fun i _ => n - (intOf i).toNat)
    case atStart => exact ⟨0, Nat.zero_le _, rfl, fun _ _ _ h => by omega, Fr.refl _ _⟩
    case round =>
      obtain ⟨k, hk, rfl, hok, hq⟩ := hrel
      have HK := Lib.hid hok
      have hkn : k ≤ n := by rw [HA.out]; exact hk
      clear hok hk
      by_cases hlt : k < n
      · have hka : k < a.length := by rw [← HA.out]; exact hlt
        have hkb : k < b.length := by rw [← HB.out]; exact hlt
        obtain ⟨b1, o1, rfl, _, x1, x2, x3, x4⟩ := (h1.fr hq (fun _ _ h => h)).act hka
        obtain ⟨b2, o2, rfl, _, y1, y2, y3, y4⟩ := (h2.fr hq (fun _ _ h => h)).act hkb
        have hne := fun w => act_neq w a[k] b[k]
        obtain ⟨p, hp⟩ : ∃ p, decide (a[k] = b[k]) = p := ⟨_, rfl⟩
        rw [hp] at hne
        have HP := Lib.hid hp
        clear hp
        generalize a[k] = x at x1 x2 x3 x4 hne
        generalize b[k] = y at y1 y2 y3 y4 hne
        have d1 := fun (n : Later wr) => n.cell x1
        have d2 := fun (n : Later wr) => n.cell x2
        have d3 := fun (n : Later wr) => n.cell x3
        have d4 := fun (n : Later wr) => n.cell y1
        have d7 := fun (n : Later wr) => n.cell x4
        have d8 := fun (n : Later wr) => n.cell y4
        have d5 := fun (n : Later wr) => n.cell y2
        have d6 := fun (n : Later wr) => n.cell y3
        clear x1 x2 x3 x4 y1 y2 y3 y4
        go_wp2_with fail
        refine wp_region_later (by kernel_rfl) (by kernel_rfl) ?_
        repeat (go_big_quiet_step (fail))
        refine wpQuiet_later fun w5 q5 => ?_
        cases p
        · go_wp2_with fail
          go_ret
          refine ⟨retB (decide_eq_false fun e => ?_).symm, hq.tr q5⟩
          subst e
          have := HP.out
          simp at this
        · go_wp2_with fail
          go_roundw
          case rel =>
            refine ⟨k + 1, by omega, rfl, fun j h3 h4 hjk => ?_, hq.tr q5⟩
            by_cases hjk2 : j < k
            · exact HK.out j h3 h4 hjk2
            · obtain rfl : j = k := by omega
              exact of_decide_eq_true HP.out
          case measure => simp [intOf]; omega
      · go_wp2_with fail
        go_ret
        refine ⟨retB (decide_eq_true (List.ext_getElem (by rw [← HA.out, ← HB.out]) fun j h3 h4 => HK.out j h3 h4 (by have := HA.out; omega))).symm, hq⟩
  · have hne : ¬ (a.length : Int) = (b.length : Int) := by omega
    go_enter Tryz.func67, Tryz.ntmps67
    go_wp2_with fail
    go_ret
    exact ⟨retB (decide_eq_false fun e => hlen (by rw [e])).symm, Fr.refl _ _⟩
end Go.Proofs.YtkjnlhidnkbelaaGreatDoor
/- Reading in an order, in plain Lean. -/
namespace Go.Proofs.YtkjnlhidnkbelaaGreatDoor
open Go Go.RowKit

theorem rdNum_left (m : Int) (s : Rd) : rdLeft (rdNum m s).2 ≤ rdLeft s := by
  rcases rdNum_cases m s with h | ⟨bs, k, r, rfl, h, _, _, hb⟩
  · rw [h]; exact Nat.zero_le _
  · rw [h]; simp [rdLeft, hb]
theorem rdFlag_left (s : Rd) : rdLeft (rdFlag s).2 ≤ rdLeft s := by
  cases s with
  | none => exact Nat.le_refl _
  | some bs =>
    cases bs with
    | nil => exact Nat.le_refl _
    | cons b r =>
      by_cases h : 1 < b.toNat
      · have e : rdFlag (some (b :: r)) = (false, none) := by simp [rdFlag, h]
        rw [e]; exact Nat.zero_le _
      · have e : rdFlag (some (b :: r)) = (((b.toNat : Int) == 1), some r) := by simp [rdFlag, h]
        rw [e]; simp [rdLeft]
theorem rdRow_left (m : Int) (s : Rd) : rdLeft (rdRow m s).2 ≤ rdLeft s := by
  rcases rdNum_cases m s with h | ⟨bs, k, r, rfl, h, _, _, hb⟩
  · rw [rdRow_none h]; exact Nat.zero_le _
  · rw [rdRow_some h]
    split
    · exact Nat.zero_le _
    · simp [rdLeft, hb]; omega

/-- One step of reading: is all as it was; what is left. -/
abbrev RdQ := Bool × Rd
def rowQ (x : List UInt8) (q : RdQ) : RdQ := (decide ((rdRow (x.length : Nat) q.2).1 = x) && q.1, (rdRow (x.length : Nat) q.2).2)
def flagQ (x : Bool) (q : RdQ) : RdQ := (((rdFlag q.2).1 == x) && q.1, (rdFlag q.2).2)
def numQ (x : Int) (q : RdQ) : RdQ := (((rdNum x q.2).1 == x) && q.1, (rdNum x q.2).2)
def textQ (x : ByteArray) (q : RdQ) : RdQ := (((rdRow (x.size : Nat) q.2).1 == x.toList) && q.1, (rdRow (x.size : Nat) q.2).2)
def optQ {α : Type} (f : α → RdQ → RdQ) (x : Option α) (q : RdQ) : RdQ := match x with | none => q | some a => f a q
theorem optQ_none {α : Type} (f : α → RdQ → RdQ) (l : List α) (k : Nat) (q : RdQ) (h : ¬ k < l.length) : optQ f l[k]? q = q := by rw [List.getElem?_eq_none (by omega)]; rfl
theorem optQ_some {α : Type} (f : α → RdQ → RdQ) (l : List α) (k : Nat) (q : RdQ) (h : k < l.length) : optQ f l[k]? q = f l[k] q := by rw [List.getElem?_eq_getElem h]; rfl

def roundQ (rows : List (List UInt8)) (flags : List Bool) (nums : List Int) (texts : List ByteArray) (k : Nat) (q : RdQ) : RdQ :=
  optQ textQ texts[k]? (optQ numQ nums[k]? (optQ flagQ flags[k]? (optQ rowQ rows[k]? q)))
def roundsQ (rows : List (List UInt8)) (flags : List Bool) (nums : List Int) (texts : List ByteArray) : Nat → RdQ → RdQ
  | 0, q => q
  | k + 1, q => roundQ rows flags nums texts k (roundsQ rows flags nums texts k q)

end Go.Proofs.YtkjnlhidnkbelaaGreatDoor
