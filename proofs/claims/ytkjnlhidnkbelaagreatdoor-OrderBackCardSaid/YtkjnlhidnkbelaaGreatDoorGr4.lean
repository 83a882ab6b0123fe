/- Several texts, laid one behind the other by merge.py: RdD RdSz Mid OdA. -/
import Derived.Test.YtkjnlhidnkbelaaGreatDoorRdC
import Derived.Test.YtkjnlhidnkbelaaGreatDoorGr2
import Derived.Test.YtkjnlhidnkbelaaGreatDoorGr3
import Derived.Deep.MidRow
import Derived.Deep.DeepCutAuto
/- The program's reader: texts, what is left, the end. -/
namespace Go.Proofs.YtkjnlhidnkbelaaGreatDoor
open Go Go.RowKit

/-- 'string(b)'. -/
theorem run_text_sl (w : World) (F : Nat → Prop) (A : Option Addr) (c : Nat) (bs : List UInt8) (h : Sl w F A (bs.map B8)) :
    (convert 22 9 (.slice A bs.length c)).run Tryz.prog w = .ok (.string ⟨bs.toArray⟩) w := by
  cases A with
  | none =>
    have hb : bs = [] := by
      rcases h with h | ⟨b, o, h, _⟩
      · simpa using h
      · cases h
    subst hb
    exact run_convert_bytes_nil w 22 5 Tryz.underlying22 Tryz.underlying5 0 c 9 Tryz.underlying9
  | some a =>
    rw [run_convert_bytes_string w 22 9 5 _ _ c Tryz.underlying22 Tryz.underlying5 Tryz.underlying9]
    have hl : (loadCells a bs.length).run Tryz.prog w = .ok ((bs.map fun b => (b.toNat : Int)).map (Value.int .u8)).toArray w := by
      have := run_loadCells_list (P := Tryz.prog) w a (bs.map B8) (fun j v hj => by
        rcases h with h | ⟨b, o, h, _, _, hc⟩
        · rw [h] at hj; simp at hj
        · injection h with h
          subst h
          rw [Addr.add_lit]
          exact hc j v hj)
      rw [List.length_map] at this
      rw [this, List.map_map]
      rfl
    rw [run_bytesToString w a bs.length c _ hl, foldl_push_bytes]
    congr 2
    simp [ByteArray.empty, ByteArray.emptyWithCapacity]
    show List.map ((fun n : Int => UInt8.ofNat n.toNat) ∘ fun b : UInt8 => (b.toNat : Int)) bs = bs
    rw [show ((fun n : Int => UInt8.ofNat n.toNat) ∘ fun b : UInt8 => (b.toNat : Int)) = id from funext fun b => by simp]
    simp

theorem rdtext_any (w : World) (F : Nat → Prop) (g : Nat) (s : Rd) (h : IsRd w F g s) (most : Int) (hsz : rdLeft s ≤ 1000000000000) :
    Calls Tryz.prog 63 #[.pointer (some ⟨g, 0, none⟩), .int .i64 most] w fun e w' => e = .returned (.string ⟨(rdRow most s).1.toArray⟩) ∧ RdTo w F g (rdRow most s).2 w' := by
  obtain ⟨bs, s1, hrow⟩ : ∃ bs s1, rdRow most s = (bs, s1) := ⟨_, _, rfl⟩
  have hcon := rdrow_any w F g s h most hsz
  rw [hrow] at hcon ⊢
  clear hrow
  go_enter Tryz.func63, Tryz.ntmps63
  go_wp2_with (go_at_call 64; refine hcon.mono ?_; rintro e w1 ⟨A, c, rfl, ho, h1, _⟩; have hconv := run_text_sl w1 _ _ c _ ho.sl)
  go_ret
  exact ⟨rfl, h1⟩

theorem rdend_any (w : World) (F : Nat → Prop) (g : Nat) (s : Rd) (h : IsRd w F g s) :
    Calls Tryz.prog 66 #[.pointer (some ⟨g, 0, none⟩)] w fun e w' => e = .returned (.int .i64 (rdEnd s)) ∧ w = w' := by
  cases s with
  | none =>
    have c0 := h.1.cell 0
    have c1 := h.1.cell 1
    simp at c0 c1
    go_enter Tryz.func66, Tryz.ntmps66
    go_wp2
    go_ret
    exact ⟨rfl, rfl⟩
  | some bs =>
    obtain ⟨A, cap, hb, _⟩ := id h
    have c0 := hb.cell 0
    have c1 := hb.cell 1
    have c2 := hb.cell 2
    simp at c0 c1 c2
    cases bs with
    | nil =>
      go_enter Tryz.func66, Tryz.ntmps66
      go_wp2
      go_ret
      exact ⟨rfl, rfl⟩
    | cons b r =>
      have hpos : (0 : Int) < (((b :: r).length : Nat) : Int) := by simp
      go_enter Tryz.func66, Tryz.ntmps66
      go_wp2
      go_ret
      exact ⟨rfl, rfl⟩
end Go.Proofs.YtkjnlhidnkbelaaGreatDoor
/- Reads read: how much is left; sizes. -/
namespace Go.Proofs.YtkjnlhidnkbelaaGreatDoor
open Go Go.RowKit

theorem rdRdg_left (s : Rd) : rdLeft (rdRdg s).2 ≤ rdLeft s := Nat.le_trans (rdRow_left 20 _) (Nat.le_trans (rdFlag_left _) (rdRow_left 20 s))
theorem rdRdgs_left (k : Nat) (s : Rd) : rdLeft (rdRdgs k s).2 ≤ rdLeft s := by
  induction k with
  | zero => exact Nat.le_refl _
  | succ k ih => exact Nat.le_trans (rdRdg_left _) ih
theorem rd_size : (Tryz.prog.info? 93).map (·.size) = some 3 := by kernel_rfl
theorem rd_app {W w6 : World} {A A6 : Option Addr} {k c c6 : Nat} {cs : List Value} {news : List Value} (h : AppTo W 93 3 A k c 1 cs news A6 c6 w6) :
    Own w6 93 3 A6 (k + 1) c6 (cs ++ news) ∧ Fr (inA A) W w6 ∧ ∀ j, inA A6 j → inA A j ∨ W.heap.size ≤ j := by
  obtain ⟨h1, _, h3⟩ := h
  refine ⟨h1, ?_, ?_⟩
  · rcases h3 with ⟨_, _, _, hf⟩ | ⟨_, _, hf⟩
    · exact hf
    · exact Nw.on hf
  · intro j hj
    rcases h3 with ⟨_, rfl, _, _⟩ | ⟨_, rfl, _⟩
    · exact .inl hj
    · exact .inr (by rw [(inA_some _ _).1 hj]; exact Nat.le_refl _)
theorem rdNum_most (m : Int) (s : Rd) (hm : 0 ≤ m) : 0 ≤ (rdNum m s).1 ∧ (rdNum m s).1 ≤ m := by
  rcases rdNum_cases m s with h | ⟨bs, n, r, _, h, _, h2, _⟩
  · rw [h]; exact ⟨Int.le_refl _, hm⟩
  · rw [h]; exact ⟨by simp, h2⟩
theorem rdRow_len (m : Int) (hm : 0 ≤ m) (s : Rd) : ((rdRow m s).1.length : Int) ≤ m := by
  rcases rdNum_cases m s with h | ⟨bs, n, r, _, h, _, h2, _⟩
  · rw [rdRow_none h]; simpa using hm
  · rw [rdRow_some h]
    split
    · simpa using hm
    · simp; omega
end Go.Proofs.YtkjnlhidnkbelaaGreatDoor
/- A struct stored into a part of a block. -/
namespace Go.Proofs.YtkjnlhidnkbelaaGreatDoor
open Go Go.RowKit

/-- Cells from place o on, others put there. -/
def putL : List Value → Nat → List Value → List Value
  | cs, 0, [] => cs
  | [], 0, _ :: _ => []
  | _ :: cs, 0, v :: vs => v :: putL cs 0 vs
  | [], _ + 1, _ => []
  | c :: cs, o + 1, vs => c :: putL cs o vs
theorem putL_nil (cs : List Value) (o : Nat) : putL cs o [] = cs := by
  induction cs generalizing o with
  | nil => cases o <;> rfl
  | cons c cs ih =>
    cases o with
    | zero => rfl
    | succ o => show c :: putL cs o [] = _; rw [ih]
theorem putL_cons (cs : List Value) (o : Nat) (v : Value) (vs : List Value) : putL cs o (v :: vs) = putL (cs.set o v) (o + 1) vs := by
  induction cs generalizing o with
  | nil => cases o <;> rfl
  | cons c cs ih =>
    cases o with
    | zero =>
      show v :: putL cs 0 vs = v :: putL cs 0 vs
      rfl
    | succ o =>
      show c :: putL cs o (v :: vs) = c :: putL (cs.set o v) (o + 1) vs
      rw [ih]
section
variable {w w' : World} {g : Nat} {t : TypeId} {l : List Value}
theorem Blk.setCells (h : Blk w g t l.toArray) (o : Nat) (vs : List Value) : Blk (w.setCells g o vs) g t (putL l o vs).toArray := by
  induction vs generalizing w o l with
  | nil => rw [putL_nil]; exact h
  | cons v vs ih =>
    rw [putL_cons]
    have h1 := h.set_ o v
    rw [List.setIfInBounds_toArray] at h1
    exact ih h1 (o + 1)
theorem Fr.set1 (f : Fr (· = g) w w') (k : Nat) (u : Value) : Fr (· = g) w (w'.setCell ⟨g, k, none⟩ u) := f.setCell (p := ⟨g, k, none⟩) (.inl rfl) u
theorem Fr.setCells (f : Fr (· = g) w w') (o : Nat) (vs : List Value) : Fr (· = g) w (w'.setCells g o vs) := by
  induction vs generalizing w' o with
  | nil => exact f
  | cons v vs ih => exact ih (f.set1 o v) (o + 1)
theorem Blk.there (h : Blk w g t l.toArray) (o n : Nat) (hn : o + n ≤ l.length) : w.there g o n := fun j hj => by
  have h1 := h.cell (o + j)
  have h2 := h.frozen (o + j)
  rw [h1]
  exact ⟨by simp; omega, h2⟩
theorem Blk.cells_at (h : Blk w g t l.toArray) (o : Nat) : ∀ p u, (l.drop o)[p]? = some u → w.cell? ⟨g, o + p, none⟩ = some u := fun p u hu => by
  rw [h.cell]
  simpa using hu
theorem Blk.cells_in (h : Blk w g t l.toArray) (o n : Nat) : ∀ p u, ((l.drop o).take n)[p]? = some u → w.cell? ⟨g, o + p, none⟩ = some u := fun p u hu => by
  refine h.cells_at o p u ?_
  rw [List.getElem?_take] at hu
  split at hu
  · exact hu
  · cases hu
theorem Blk.farCells {g' : Nat} {cs : Array Value} (h : Blk w g' t cs) (hne : g' ≠ g) (o : Nat) (vs : List Value) : Blk (w.setCells g o vs) g' t cs := h.fr (Fr.setCells (Fr.refl (· = g) w) o vs) hne
end
end Go.Proofs.YtkjnlhidnkbelaaGreatDoor
/- Orders and answers in memory. -/
namespace Go.Proofs.YtkjnlhidnkbelaaGreatDoor
open Go Go.RowKit

/-- Where the lists lie. -/
structure Pl where
  a : Option Addr
  ca : Nat
  r : Option Addr
  cr : Nat
  b : Option Addr
  cb : Nat
def plZ : Pl := ⟨none, 0, none, 0, none, 0⟩
/-- A part's lists taken over. -/
def plTo (p q : Pl) : Part → Pl
  | .acts => { q with a := p.a, ca := p.ca }
  | .reads => { q with r := p.r, cr := p.cr }
  | .load => { q with b := p.b, cb := p.cb }
  | _ => q
abbrev U8V (n : Int) : Value := .int .u8 n
/-- An order's thirteen cells. -/
abbrev ofA (kv : Value) (x : OrdF) (p : Pl) : Array Value :=
  #[kv, I64 x.nm.1, I64 x.nm.2, I64 x.epoch, .slice p.a x.acts.length p.ca, .bool x.commit, .slice p.r x.reads.length p.cr, I64 x.scheme, I64 x.stage, I64 x.to, StrV x.lo, StrV x.hi, .slice p.b x.bytes.length p.cb]
/-- An answer's nine cells. -/
abbrev afA (x : AnsF) (p : Pl) : Array Value :=
  #[I64 x.err, I64 x.nm.1, I64 x.nm.2, .bool x.is, .bool x.commit, .slice p.r x.reads.length p.cr, I64 x.scheme, I64 x.stage, .slice p.b x.bytes.length p.cb]
/-- An order's lists, in memory. -/
structure OrdIn (w : World) (F : Nat → Prop) (x : OrdF) (p : Pl) : Prop where
  acts : Sl w F p.a (actsCells x.acts)
  reads : Sl w F p.r (rdgsCells x.reads)
  bytes : Sl w F p.b (x.bytes.map B8)
  ca : x.acts.length ≤ p.ca ∧ p.ca ≤ maxLen
  cr : x.reads.length ≤ p.cr ∧ p.cr ≤ maxLen
  cb : x.bytes.length ≤ p.cb ∧ p.cb ≤ maxLen
structure AnsIn (w : World) (F : Nat → Prop) (x : AnsF) (p : Pl) : Prop where
  reads : Sl w F p.r (rdgsCells x.reads)
  bytes : Sl w F p.b (x.bytes.map B8)
  cr : x.reads.length ≤ p.cr ∧ p.cr ≤ maxLen
  cb : x.bytes.length ≤ p.cb ∧ p.cb ≤ maxLen
theorem OrdIn.fr {w w' : World} {F S : Nat → Prop} {x : OrdF} {p : Pl} (h : OrdIn w F x p) (f : Fr S w w') (hn : ∀ k, F k → ¬ S k) : OrdIn w' F x p :=
  ⟨h.acts.fr f hn, h.reads.fr f hn, h.bytes.fr f hn, h.ca, h.cr, h.cb⟩
theorem AnsIn.fr {w w' : World} {F S : Nat → Prop} {x : AnsF} {p : Pl} (h : AnsIn w F x p) (f : Fr S w w') (hn : ∀ k, F k → ¬ S k) : AnsIn w' F x p :=
  ⟨h.reads.fr f hn, h.bytes.fr f hn, h.cr, h.cb⟩
theorem OrdIn.mono {w : World} {F F' : Nat → Prop} {x : OrdF} {p : Pl} (h : OrdIn w F x p) (hF : ∀ k, F k → k < w.heap.size → F' k) : OrdIn w F' x p :=
  ⟨h.acts.mono hF, h.reads.mono hF, h.bytes.mono hF, h.ca, h.cr, h.cb⟩
theorem AnsIn.mono {w : World} {F F' : Nat → Prop} {x : AnsF} {p : Pl} (h : AnsIn w F x p) (hF : ∀ k, F k → k < w.heap.size → F' k) : AnsIn w F' x p :=
  ⟨h.reads.mono hF, h.bytes.mono hF, h.cr, h.cb⟩
/-- Acts that are not beyond what a machine has. -/
def ActSz (l : List ActT) : Prop := ∀ a ∈ l, (0 ≤ a.kind ∧ a.kind ≤ 255) ∧ a.key.length ≤ 140737488355328 ∧ a.val.length ≤ 140737488355328
structure OrdSz (x : OrdF) : Prop where
  kind : 0 ≤ x.kind ∧ x.kind ≤ 255
  acts : x.acts.length ≤ 1000000000 ∧ ActSz x.acts
  reads : x.reads.length ≤ 1000000000 ∧ RdgSz x.reads
  bytes : x.bytes.length ≤ 1000000000
  lo : x.lo.length ≤ 1000000000000
  hi : x.hi.length ≤ 1000000000000
structure AnsSz (x : AnsF) : Prop where
  reads : x.reads.length ≤ 1000000000 ∧ RdgSz x.reads
  bytes : x.bytes.length ≤ 1000000000
theorem of_one (k : Value) (hk : k.oneCell' = true) (x : OrdF) (p : Pl) : (ofA k x p).all (·.oneCell') = true := by
  rw [List.all_toArray]
  simp only [List.all_cons, List.all_nil, hk]
  rfl
theorem af_one (x : AnsF) (p : Pl) : (afA x p).all (·.oneCell') = true := by
  rw [List.all_toArray]
  simp only [List.all_cons, List.all_nil]
  rfl
theorem ord_size : (Tryz.prog.info? 31).map (·.size) = some 13 := by kernel_rfl
theorem rord_size : (Tryz.prog.info? 55).map (·.size) = some 13 := by kernel_rfl
theorem ans_size : (Tryz.prog.info? 41).map (·.size) = some 9 := by kernel_rfl
theorem rans_size : (Tryz.prog.info? 60).map (·.size) = some 9 := by kernel_rfl
abbrev zO (kv : Value) : Array Value := #[kv, I64 0, I64 0, I64 0, .slice none 0 0, .bool false, .slice none 0 0, I64 0, I64 0, I64 0, .string ⟨#[]⟩, .string ⟨#[]⟩, .slice none 0 0]
abbrev zA : Array Value := #[I64 0, I64 0, I64 0, .bool false, .bool false, .slice none 0 0, I64 0, I64 0, .slice none 0 0]
set_option maxRecDepth 100000 in
theorem owithin_any (w : World) (a b c : Int) : Calls Tryz.prog 51 #[I64 a, I64 b, I64 c] w fun e w' => e = .returned (.bool (decide (a ≤ b ∧ b ≤ c))) ∧ Nw w w' := by
  by_cases h1 : a ≤ b
  · by_cases h2 : b ≤ c
    · have e : decide (a ≤ b ∧ b ≤ c) = true := decide_eq_true ⟨h1, h2⟩
      rw [e]
      go_enter Tryz.func51, Tryz.ntmps51
      go_wp2_with fail
      go_ret
      exact ⟨rfl, Fr.refl _ w⟩
    · have e : decide (a ≤ b ∧ b ≤ c) = false := decide_eq_false fun h => h2 h.2
      rw [e]
      go_enter Tryz.func51, Tryz.ntmps51
      go_wp2_with fail
      go_ret
      exact ⟨by simp, Fr.refl _ w⟩
  · have e : decide (a ≤ b ∧ b ≤ c) = false := decide_eq_false fun h => h1 h.1
    rw [e]
    go_enter Tryz.func51, Tryz.ntmps51
    go_wp2_with fail
    go_ret
    exact ⟨by simp, Fr.refl _ w⟩
set_option maxRecDepth 100000 in
/-- 'bytes.Equal'. -/
theorem bequal_any (w : World) (F1 F2 : Nat → Prop) (A1 A2 : Option Addr) (c1 c2 : Nat) (xs ys : List UInt8) (h1 : Sl w F1 A1 (xs.map B8)) (h2 : Sl w F2 A2 (ys.map B8)) :
    Calls Tryz.prog 151 #[.slice A1 xs.length c1, .slice A2 ys.length c2] w fun e w' => e = .returned (.bool (decide (xs = ys))) ∧ Nw w w' := by
  have t1 := run_text_sl w F1 A1 c1 xs h1
  have t2 := run_text_sl w F2 A2 c2 ys h2
  have hbe : (xs == ys) = decide (xs = ys) := by rw [Bool.eq_iff_iff]; simp
  have HB := Lib.hid hbe
  clear hbe
  go_enter Tryz.func151, Tryz.ntmps151
  go_wp2_with fail
  go_ret
  exact ⟨by simp [HB.out], Fr.refl _ w⟩
end Go.Proofs.YtkjnlhidnkbelaaGreatDoor
