/- Words for memory, over any program: a block that is known whole, a frame, a slice that reads as a list of cells. -/
import Derived.WalkKit
import Derived.WalkLawsBesides
import Derived.WalkSpells
import Derived.Below
import Derived.Laws.OwnMore
import Derived.Maps.AppendAt
import Derived.Deep.AppendLies
import Derived.Deep.Draws
import Derived.Lib.Hide
namespace Go.Proofs.Ytoapobgnfgfobaa
open Go Go.RowKit

/-- Block g is just these cells, none frozen. -/
def Blk (w : World) (g : Nat) (t : TypeId) (cs : Array Value) : Prop := w.heap[g]? = some (.cells cs t (0, 0))

/-- Only blocks of S, and new ones, have turned. -/
structure Fr (S : Nat → Prop) (w w' : World) : Prop where
  os : w'.os = w.os
  tape : w'.tape = w.tape
  output : w'.output = w.output
  size : w.heap.size ≤ w'.heap.size
  block : ∀ k, k < w.heap.size → ¬ S k → w'.heap[k]? = w.heap[k]?

section
variable {w w' w'' : World} {g : Nat} {t : TypeId} {cs : Array Value} {S S' : Nat → Prop}

theorem Blk.lt (h : Blk w g t cs) : g < w.heap.size := by
  rcases Nat.lt_or_ge g w.heap.size with hlt | hge
  · exact hlt
  · unfold Blk at h; rw [Array.getElem?_eq_none hge] at h; cases h
theorem Blk.cell (h : Blk w g t cs) (i : Nat) : w.cell? ⟨g, i, none⟩ = cs[i]? := cell_of_row w g i cs t (0, 0) h
theorem Blk.frozen (h : Blk w g t cs) (i : Nat) : w.frozen? ⟨g, i, none⟩ = false := by
  unfold Blk at h
  simp [World.frozen?, h]
theorem Blk.new (w : World) (t : TypeId) (cs : Array Value) : Blk (w.alloc (.cells cs t)) w.heap.size t cs := heap_alloc_new w _
theorem Blk.drew (h : Blk w g t cs) : Blk w.drew g t cs := h
theorem Blk.drewN (h : Blk w g t cs) (n : Nat) : Blk (w.drewN n) g t cs := h
theorem Blk.alloc (h : Blk w g t cs) (o : Obj) : Blk (w.alloc o) g t cs := (Below.heap_alloc w o g h.lt).trans h
theorem Blk.set_ (h : Blk w g t cs) (i : Nat) (u : Value) : Blk (w.setCell ⟨g, i, none⟩ u) g t (cs.setIfInBounds i u) := by
  unfold Blk at h ⊢
  simp [World.setCell, Array.getElem?_modify, h]
theorem Blk.far (h : Blk w g t cs) {p : Addr} (hp : g ≠ p.block) (u : Value) : Blk (w.setCell p u) g t cs := (Below.heap_setCell w p u g hp).trans h
theorem Blk.fr (h : Blk w g t cs) (hf : Fr S w w') (hg : ¬ S g) : Blk w' g t cs := (hf.block g h.lt hg).trans h
theorem Blk.inj {t' : TypeId} {cs' : Array Value} (h : Blk w g t cs) (h' : Blk w g t' cs') : t = t' ∧ cs = cs' := by
  unfold Blk at h h'
  rw [h] at h'
  injection h' with h'
  injection h' with h1 h2
  exact ⟨h2, h1⟩
theorem Blk.ne_ {g' : Nat} {t' : TypeId} {cs' : Array Value} (h : Blk w g t cs) (h' : Blk w g' t' cs') (hne : t ≠ t') : g ≠ g' := by
  rintro rfl
  exact hne (h.inj h').1

theorem Fr.refl (S : Nat → Prop) (w : World) : Fr S w w := ⟨rfl, rfl, rfl, Nat.le_refl _, fun _ _ _ => rfl⟩
/-- Two steps: what the second one may turn, the whole may turn, or it is new. -/
theorem Fr.trans (h : Fr S w w') (k : Fr S' w' w'') (hs : ∀ b, S' b → S b ∨ w.heap.size ≤ b) : Fr S w w'' :=
  ⟨k.os.trans h.os, k.tape.trans h.tape, k.output.trans h.output, Nat.le_trans h.size k.size, fun i hi hn =>
    (k.block i (Nat.lt_of_lt_of_le hi h.size) (fun hb => (hs i hb).elim hn (fun hh => by omega))).trans (h.block i hi hn)⟩
theorem Fr.mono (h : Fr S w w') (hs : ∀ b, S b → S' b ∨ w.heap.size ≤ b) : Fr S' w w' :=
  ⟨h.os, h.tape, h.output, h.size, fun i hi hn => h.block i hi (fun hb => (hs i hb).elim hn (fun hh => by omega))⟩
theorem Fr.tr (h : Fr S w w') (k : Fr S w' w'') : Fr S w w'' := h.trans k fun _ hb => .inl hb
theorem Fr.drew (h : Fr S w w') : Fr S w w'.drew := ⟨h.os, h.tape, h.output, h.size, h.block⟩
theorem Fr.drewN (h : Fr S w w') (n : Nat) : Fr S w (w'.drewN n) := ⟨h.os, h.tape, h.output, h.size, h.block⟩
theorem Fr.alloc (h : Fr S w w') (o : Obj) : Fr S w (w'.alloc o) :=
  ⟨h.os, h.tape, h.output, Nat.le_trans h.size (by simp), fun i hi hn => (Below.heap_alloc w' o i (Nat.lt_of_lt_of_le hi h.size)).trans (h.block i hi hn)⟩
theorem Fr.setCell (h : Fr S w w') {p : Addr} (hp : S p.block ∨ w.heap.size ≤ p.block) (u : Value) : Fr S w (w'.setCell p u) :=
  ⟨h.os, h.tape, h.output, by simpa [World.setCell] using h.size, fun i hi hn => (Below.heap_setCell w' p u i (by
    rintro rfl
    rcases hp with hp | hp
    · exact hn hp
    · omega)).trans (h.block i hi hn)⟩
theorem Fr.grown (h : Fr S w w') {row : Option Nat} (hg : w'.grownBy w'' row) (hr : ∀ k, row = some k → S k ∨ w.heap.size ≤ k) : Fr S w w'' :=
  h.trans (S' := fun k => row = some k) ⟨hg.os, hg.tape, hg.output, hg.size, fun i hi hn => hg.block i hi (fun e => hn e.symm)⟩ hr
theorem Fr.of_below (h : Below w.heap.size w w') : Fr S w w' := ⟨h.os, h.tape, h.output, h.size, fun i hi _ => h.block i hi⟩
theorem Fr.below {B : Nat} (h : Fr S w w') (hs : ∀ k, S k → B ≤ k) (hB : B ≤ w.heap.size) : Below B w w' :=
  ⟨h.os, h.tape, h.output, h.size, fun i hi => h.block i (by omega) (fun hb => by have := hs i hb; omega)⟩
theorem Fr.cell (h : Fr S w w') {p : Addr} (hp : p.block < w.heap.size) (hn : ¬ S p.block) : w'.cell? p = w.cell? p := World.cell?_of_block (w := w) (h.block p.block hp hn)
theorem Fr.frozen (h : Fr S w w') {p : Addr} (hp : p.block < w.heap.size) (hn : ¬ S p.block) : w'.frozen? p = w.frozen? p := World.frozen?_of_block (w := w) (h.block p.block hp hn)

/-- Only new blocks were made, or turned. -/
abbrev Nw (w w' : World) : Prop := Fr (fun _ => False) w w'
theorem Fr.new (h : Nw w w') (k : Fr S w' w'') (hs : ∀ b, S b → w.heap.size ≤ b) : Nw w w'' := h.trans k fun b hb => .inr (hs b hb)
theorem Nw.on (h : Nw w w') : Fr S w w' := h.mono fun _ h => h.elim

/-- The cells from A on are cs; they lie in a block of F. -/
def Sl (w : World) (F : Nat → Prop) (A : Option Addr) (cs : List Value) : Prop :=
  cs = [] ∨ ∃ b o, A = some ⟨b, o, none⟩ ∧ F b ∧ b < w.heap.size ∧ ∀ j u, cs[j]? = some u → w.cell? ⟨b, o + j, none⟩ = some u

variable {F F' : Nat → Prop} {A : Option Addr} {xs : List Value}
theorem Sl.nil (w : World) (F : Nat → Prop) (A : Option Addr) : Sl w F A [] := .inl rfl
theorem Sl.at_ (h : Sl w F A xs) (hne : xs ≠ []) : ∃ b o, A = some ⟨b, o, none⟩ ∧ F b ∧ b < w.heap.size ∧ ∀ j u, xs[j]? = some u → w.cell? ⟨b, o + j, none⟩ = some u := h.resolve_left hne
theorem Sl.fr (h : Sl w F A xs) (hf : Fr S w w') (hn : ∀ b, F b → ¬ S b) : Sl w' F A xs := by
  rcases h with h | ⟨b, o, hA, hF, hb, hc⟩
  · exact .inl h
  · exact .inr ⟨b, o, hA, hF, Nat.lt_of_lt_of_le hb hf.size, fun j u hu => (hf.cell hb (hn b hF)).trans (hc j u hu)⟩
theorem Sl.mono (h : Sl w F A xs) (hF : ∀ b, F b → b < w.heap.size → F' b) : Sl w F' A xs := by
  rcases h with h | ⟨b, o, hA, hFb, hb, hc⟩
  · exact .inl h
  · exact .inr ⟨b, o, hA, hF b hFb hb, hb, hc⟩
/-- The address of 's[l:..]'. -/
def cutA (A : Option Addr) (m l s : Nat) : Option Addr := if m = l then A else A.map (·.add (l * s))
theorem Sl.cut {n m s l k : Nat} (h : Sl w F A xs) (hl : xs.length = n * s) (hk : k ≤ n) (hm : n ≤ m) (hlk : l ≤ k) : Sl w F (cutA A m l s) ((xs.drop (l * s)).take ((k - l) * s)) := by
  by_cases he : (xs.drop (l * s)).take ((k - l) * s) = []
  · exact .inl he
  have hne : xs ≠ [] := by rintro rfl; simp at he
  have hlt : ¬ m = l := by
    intro e
    have : k - l = 0 := by omega
    rw [this] at he
    simp at he
  obtain ⟨b, o, rfl, hF, hb, hc⟩ := h.at_ hne
  refine .inr ⟨b, o + l * s, ?_, hF, hb, fun j u hu => ?_⟩
  · simp only [cutA, if_neg hlt, Option.map_some, Addr.add_lit]
  · rw [List.getElem?_take] at hu
    split at hu
    · rw [List.getElem?_drop] at hu
      rw [Nat.add_assoc]
      exact hc _ u hu
    · cases hu
theorem Sl.drop {n m s l : Nat} (h : Sl w F A xs) (hl : xs.length = n * s) (hm : n ≤ m) (hln : l ≤ n) : Sl w F (cutA A m l s) (xs.drop (l * s)) := by
  have := h.cut (k := n) hl (Nat.le_refl _) hm hln
  rwa [List.take_of_length_le (by rw [List.length_drop, hl, Nat.sub_mul]; exact Nat.le_refl _)] at this
theorem Sl.take {n m s k : Nat} (h : Sl w F A xs) (hl : xs.length = n * s) (hk : k ≤ n) (hm : n ≤ m) : Sl w F (cutA A m 0 s) (xs.take (k * s)) := by
  have := h.cut (l := 0) hl hk hm (Nat.zero_le _)
  simpa using this
theorem cutA_zero (A : Option Addr) (m s : Nat) : cutA A m 0 s = A := by
  unfold cutA
  split
  · rfl
  · cases A <;> simp [Addr.add]
theorem Sl.pre {k : Nat} (h : Sl w F A xs) : Sl w F A (xs.take k) := by
  rcases h with rfl | ⟨b, o, hA, hF, hb, hc⟩
  · exact .inl (by simp)
  · refine .inr ⟨b, o, hA, hF, hb, fun j u hu => hc j u ?_⟩
    rw [List.getElem?_take] at hu
    split at hu
    · exact hu
    · cases hu
/-- A slice of a block that is known whole. -/
theorem Blk.sl (h : Blk w g t cs) (o : Nat) (k : Nat) : Sl w (· = g) (some ⟨g, o, none⟩) ((cs.toList.drop o).take k) := by
  refine .inr ⟨g, o, rfl, rfl, h.lt, fun j u hu => ?_⟩
  rw [h.cell, ← Array.getElem?_toList]
  rw [List.getElem?_take] at hu
  split at hu
  · rwa [List.getElem?_drop] at hu
  · cases hu
end

/-- The block of an address. -/
def inA (A : Option Addr) (k : Nat) : Prop := ∃ a, A = some a ∧ a.block = k
theorem inA_none (k : Nat) : ¬ inA none k := by rintro ⟨a, h, _⟩; cases h
theorem inA_some (a : Addr) (k : Nat) : inA (some a) k ↔ k = a.block := by
  constructor
  · rintro ⟨_, h, rfl⟩; injection h with h; rw [h]
  · rintro rfl; exact ⟨_, rfl, rfl⟩

/-- A slice of the call's own: it begins at its block's head, nothing of the block is frozen. -/
def Own (w : World) (E : TypeId) (size : Nat) (A : Option Addr) (n cap : Nat) (cs : List Value) : Prop :=
  cs.length = n * size ∧ ((A = none ∧ n = 0 ∧ cap = 0) ∨
    ∃ g cur, A = some ⟨g, 0, none⟩ ∧ Blk w g E cur ∧ n ≤ cap ∧ cap ≤ maxLen ∧ cur.size = cap * size ∧ cur.toList.take (n * size) = cs)

section
variable {w w' : World} {E : TypeId} {size n cap : Nat} {A : Option Addr} {cs : List Value} {S F : Nat → Prop}
theorem Own.nil (w : World) (E : TypeId) (size : Nat) : Own w E size none 0 0 [] := ⟨by simp, .inl ⟨rfl, rfl, rfl⟩⟩
theorem Own.fr (h : Own w E size A n cap cs) (hf : Fr S w w') (hn : ∀ k, inA A k → ¬ S k) : Own w' E size A n cap cs := by
  refine ⟨h.1, ?_⟩
  rcases h.2 with h2 | ⟨g, cur, rfl, hb, r⟩
  · exact .inl h2
  · exact .inr ⟨g, cur, rfl, hb.fr hf (hn g ((inA_some _ _).2 rfl)), r⟩
theorem Own.sl (h : Own w E size A n cap cs) : Sl w (inA A) A cs := by
  rcases h.2 with ⟨_, rfl, _⟩ | ⟨g, cur, rfl, hb, _, _, _, rfl⟩
  · exact .inl (List.eq_nil_of_length_eq_zero (by simpa using h.1))
  · have := hb.sl 0 (n * size)
    rw [List.drop_zero] at this
    exact this.mono fun b hb' _ => (inA_some _ _).2 hb'
theorem Own.lt (h : Own w E size A n cap cs) : ∀ k, inA A k → k < w.heap.size := by
  intro k hk
  rcases h.2 with ⟨rfl, _⟩ | ⟨g, cur, rfl, hb, _⟩
  · exact (inA_none _ hk).elim
  · rw [(inA_some _ _).1 hk]; exact hb.lt
theorem Own.ne_ {g : Nat} {t : TypeId} {bs : Array Value} (h : Own w E size A n cap cs) (hb : Blk w g t bs) (hne : t ≠ E) : ¬ inA A g := by
  intro hk
  rcases h.2 with ⟨rfl, _⟩ | ⟨g', cur, rfl, hb', _⟩
  · exact inA_none _ hk
  · have := (inA_some _ _).1 hk
    subst this
    exact hne (hb.inj hb').1
theorem Own.cap_le (h : Own w E size A n cap cs) : n ≤ cap ∧ cap ≤ maxLen := by
  rcases h.2 with ⟨_, rfl, rfl⟩ | ⟨g, cur, rfl, hb, h1, h2, _⟩
  · exact ⟨Nat.le_refl _, Nat.zero_le _⟩
  · exact ⟨h1, h2⟩
theorem Own.alloc (h : Own w E size A n cap cs) (o : Obj) : Own (w.alloc o) E size A n cap cs :=
  h.fr (S := fun _ => False) ((Fr.refl _ w).alloc o) (fun _ _ h => h)
theorem Own.setCell (h : Own w E size A n cap cs) {p : Addr} (hp : ¬ inA A p.block) (u : Value) : Own (w.setCell p u) E size A n cap cs :=
  h.fr (S := (· = p.block)) ((Fr.refl (· = p.block) w).setCell (.inl rfl) u) (fun k hk (e : k = p.block) => hp (e ▸ hk))
theorem Own.drewN (h : Own w E size A n cap cs) (k : Nat) : Own (w.drewN k) E size A n cap cs := h
theorem Sl.setCell {F : Nat → Prop} {xs : List Value} (h : Sl w F A xs) {p : Addr} (hp : ¬ F p.block) (u : Value) : Sl (w.setCell p u) F A xs :=
  h.fr (S := (· = p.block)) ((Fr.refl (· = p.block) w).setCell (.inl rfl) u) (fun k hk (e : k = p.block) => hp (e ▸ hk))
theorem Sl.alloc {F : Nat → Prop} {xs : List Value} (h : Sl w F A xs) (o : Obj) : Sl (w.alloc o) F A xs :=
  h.fr (S := fun _ => False) ((Fr.refl _ w).alloc o) (fun _ _ h => h)
theorem Sl.drewN {F : Nat → Prop} {xs : List Value} (h : Sl w F A xs) (k : Nat) : Sl (w.drewN k) F A xs := h
theorem Own.new (w : World) (E : TypeId) (size n cap : Nat) (cur : Array Value) (hc : n ≤ cap) (hm : cap ≤ maxLen) (hs : cur.size = cap * size) :
    Own (w.alloc (.cells cur E)) E size (some ⟨w.heap.size, 0, none⟩) n cap (cur.toList.take (n * size)) := by
  refine ⟨?_, .inr ⟨w.heap.size, cur, rfl, Blk.new w E cur, hc, hm, hs, rfl⟩⟩
  rw [List.length_take, Array.length_toList, hs]
  exact Nat.min_eq_left (Nat.mul_le_mul_right _ hc)
theorem Own.owns (h : Own w E size A n cap cs) : w.ownsRow 0 E size (.slice A n cap) n cs := by
  refine ⟨h.1, ?_⟩
  rcases h.2 with ⟨rfl, rfl, rfl⟩ | ⟨g, cur, rfl, hb, r⟩
  · exact .inl ⟨rfl, rfl⟩
  · exact .inr ⟨g, cap, cur, rfl, Nat.zero_le _, hb, r⟩
theorem own_of_owns {v : Value} (h : w.ownsRow 0 E size v n cs) : ∃ A cap, v = .slice A n cap ∧ Own w E size A n cap cs := by
  rcases h.2 with ⟨rfl, rfl⟩ | ⟨g, cap, cur, rfl, _, hb, r⟩
  · exact ⟨none, 0, rfl, h.1, .inl ⟨rfl, rfl, rfl⟩⟩
  · exact ⟨some ⟨g, 0, none⟩, cap, rfl, h.1, .inr ⟨g, cur, rfl, hb, r⟩⟩

variable {P : Program}
/-- 'append(s, x...)', s the call's own, x whatever reads as a list. -/
theorem run_append_sl (w : World) (t ty : TypeId) (bytes : Nat) (z : Value) (ht : P.underlying t = some (.slice E))
    (hinfo : (P.info? E).map (fun i => (i.zero, i.size, i.bytes)) = some (some z, size, bytes)) (hzs : z.cells.size = size) (hsz : 0 < size)
    (hown : Own w E size A n cap cs) {A2 : Option Addr} {m c : Nat} {news : List Value} (hsl : Sl w F A2 news) (hl : news.length = m * size) (h1 : ∀ u ∈ news, u.oneCell' = true)
    (hbytes : (n + m) * bytes ≤ 140737488355328) (hmax : n + m ≤ maxLen) :
    ∃ A' cap' w', (Builtin.append_ #[t, t] ty #[.slice A n cap, .slice A2 m c]).run P w = .ok (.slice A' (n + m) cap') w' ∧ Own w' E size A' (n + m) cap' (cs ++ news) ∧ Fr (inA A) w w' ∧
      (∀ k, inA A' k → inA A k ∨ k = w.heap.size) := by
  obtain ⟨i, hi, hz0, hz1, hz2⟩ := info_parts hinfo
  have howns := hown.owns
  have inOf : ∀ {A B : Option Addr} {n1 c1 n2 c2 : Nat}, (Value.slice A n1 c1).ownBlock = (Value.slice B n2 c2).ownBlock → ∀ k, inA A k → inA B k := by
    intro A B n1 c1 n2 c2 he k hk
    obtain ⟨a, rfl, rfl⟩ := hk
    cases B with
    | none => simp [Value.ownBlock] at he
    | some b => exact ⟨b, rfl, by simpa [Value.ownBlock] using he.symm⟩
  rcases A2 with _ | ad
  · have hn : news = [] := by
      rcases hsl with h | ⟨b, o, h, _⟩
      · exact h
      · cases h
    subst hn
    have hm : m = 0 := by
      rcases Nat.eq_zero_or_pos m with h | h
      · exact h
      · have := Nat.mul_pos h hsz; simp at hl; omega
    subst hm
    have hrun : (Builtin.append_ #[t, t] ty #[.slice A n cap, .slice none 0 c]).run P w = .ok (.slice A n cap) w := by
      rcases hown.2 with ⟨rfl, rfl, rfl⟩ | ⟨g, cur, rfl, _, hnc, _⟩
      · simp [Builtin.append_, run_underlying ht, sizeOf, typeInfo, hi, Builtin.lenOf, Builtin.firstCells]
      · simp [Builtin.append_, run_underlying ht, sizeOf, typeInfo, hi, Builtin.lenOf, Builtin.firstCells, hnc, storeCells]
    exact ⟨A, cap, w, hrun, by simpa using hown, Fr.refl _ _, fun k hk => .inl hk⟩
  · have hcells : ∀ j u, news[j]? = some u → w.cell? (ad.add j) = some u := by
      intro j u hu
      rcases hsl with h | ⟨b, o, h, _, _, hc⟩
      · subst h; simp at hu
      · injection h with h
        subst h
        rw [Addr.add_lit]
        exact hc j u hu
    obtain ⟨v', w', hrun, h2, h3, _, h5⟩ := run_append_own_at (P := P) w 0 t ty E i z size bytes ht hi hz0 hz1 hz2 hzs hsz _ n cs howns ad m c news hl hcells h1 hmax hbytes (Nat.zero_le _)
    obtain ⟨A', cap', rfl, hown'⟩ := own_of_owns h2
    refine ⟨A', cap', w', hrun, hown', ⟨h3.os, h3.tape, h3.output, h3.size, fun k hk hn => h3.block k hk ?_⟩, fun k hk => ?_⟩
    · intro e
      apply hn
      cases A with
      | none => simp [Value.ownBlock] at e
      | some b => exact ⟨b, rfl, by simpa [Value.ownBlock] using e.symm⟩
    · rcases h5 with h5 | h5
      · exact .inl (inOf h5 k hk)
      · obtain ⟨a, rfl, rfl⟩ := hk
        exact .inr (by simpa [Value.ownBlock] using h5)

/-- The walk over such an append. -/
theorem wl_append {w : World} {ops : Array Oper} {rest : List Oper} {o : Oper} {a : Act} {Q : Exit → Act → World → Prop} (hgd : o.guard = none) (s x : Operand) (t : TypeId)
    (ho : o.op = .call { callee := .builtin .append, args := #[s, x], argTypes := #[t, t] }) (bytes : Nat) (z : Value) (ht : P.underlying t = some (.slice E))
    (hinfo : (P.info? E).map (fun i => (i.zero, i.size, i.bytes)) = some (some z, size, bytes)) (hzs : z.cells.size = size) (hsz : 0 < size)
    (hs : a.eval s = .slice A n cap) (hown : Own w E size A n cap cs) {A2 : Option Addr} {m c : Nat} {news : List Value} (hx : a.eval x = .slice A2 m c) (hsl : Sl w F A2 news) (hl : news.length = m * size) (h1 : ∀ u ∈ news, u.oneCell' = true)
    (hbytes : (n + m) * bytes ≤ 140737488355328) (hmax : n + m ≤ maxLen)
    (h : ∀ A' cap' w', Own w' E size A' (n + m) cap' (cs ++ news) → Fr (inA A) w w' → (∀ k, inA A' k → inA A k ∨ k = w.heap.size) → wpList P ops Q rest (a.put o.dst (.slice A' (n + m) cap')) w') :
    wpList P ops Q (o :: rest) a w := by
  refine wpList_plain hgd fun K hK' => ?_
  obtain ⟨A', cap', w', hrun, h2, h3, h4⟩ := run_append_sl (P := P) w t o.type bytes z ht hinfo hzs hsz hown hsl hl h1 hbytes hmax
  unfold Oper.wp execOp
  simp only [ho, resolve, invoke, builtin, Sem.run_bind, Sem.run_pure, Result.andThen_ok, List.map_toArray, List.map_cons, List.map_nil, hs, hx]
  rw [hrun]
  exact hK' _ _ (h A' cap' w' h2 h3 h4)
end


/- Slicing as the walk is to write it: the address behind a name, no 'if' to part on. -/
section
variable {P : Program} (w : World) (t : TypeId) (a : Option Addr) (len cap : Nat) (ht : P.underlying t = some (.slice (P.elem t)))
include ht
theorem run_slice_lh' (kl kh : IntKind) (l h : Int) (h0 : 0 ≤ l) (h1 : l ≤ h) (h2 : h ≤ cap) :
    (Instr.slice t (.slice a len cap) (some (.int kl l)) (some (.int kh h)) none).run P w =
      ((sizeOf (P.elem t)).run P w).andThen fun s w => .ok (.slice (cutA a cap l.toNat s) (h.toNat - l.toNat) (cap - l.toNat)) w := run_slice_lh w t a len cap ht kl kh l h h0 h1 h2
theorem run_slice_h' (kh : IntKind) (h : Int) (h0 : 0 ≤ h) (h2 : h ≤ cap) :
    (Instr.slice t (.slice a len cap) none (some (.int kh h)) none).run P w =
      ((sizeOf (P.elem t)).run P w).andThen fun s w => .ok (.slice (cutA a cap 0 s) h.toNat cap) w := run_slice_h w t a len cap ht kh h h0 h2
theorem run_slice_l' (kl : IntKind) (l : Int) (h0 : 0 ≤ l) (h1 : l ≤ len) :
    (Instr.slice t (.slice a len cap) (some (.int kl l)) none none).run P w =
      ((sizeOf (P.elem t)).run P w).andThen fun s w => .ok (.slice (cutA a cap l.toNat s) (len - l.toNat) (cap - l.toNat)) w := run_slice_l w t a len cap ht kl l h0 h1
theorem run_slice_hm' (kh km : IntKind) (h m : Int) (h0 : 0 ≤ h) (h2 : h ≤ m) (h3 : m ≤ cap) :
    (Instr.slice t (.slice a len cap) none (some (.int kh h)) (some (.int km m))).run P w =
      ((sizeOf (P.elem t)).run P w).andThen fun s w => .ok (.slice (cutA a m.toNat 0 s) h.toNat m.toNat) w := run_slice_hm w t a len cap ht kh km h m h0 h2 h3
end

/-- An integer as a value. -/
abbrev I64 (n : Int) : Value := .int .i64 n

section
variable {w w' : World} {F F' S : Nat → Prop} {A : Option Addr} {α : Type}
theorem Sl.get {f : α → Value} {l : List α} (h : Sl w F A (l.map f)) {k : Nat} (hk : k < l.length) : ∃ b o, A = some ⟨b, o, none⟩ ∧ F b ∧ w.cell? ⟨b, o + k, none⟩ = some (f l[k]) := by
  obtain ⟨b, o, hA, hF, _, hc⟩ := h.at_ (by intro e; have := congrArg List.length e; simp at this; simp [this] at hk)
  exact ⟨b, o, hA, hF, hc k _ (by simp [hk])⟩
theorem foldl_take_succ {β : Type} (f : β → α → β) (l : List α) (k : Nat) (h : k < l.length) (s : β) : (l.take (k + 1)).foldl f s = f ((l.take k).foldl f s) l[k] := by
  rw [List.take_succ_eq_append_getElem h, List.foldl_append]
  rfl

/-- What lies in F2 is there, and is not of F. -/
def Apart (w : World) (F2 F : Nat → Prop) : Prop := ∀ k, F2 k → k < w.heap.size ∧ ¬ F k
theorem Apart.no {F2 : Nat → Prop} (h : Apart w F2 F) : ∀ k, F2 k → ¬ F k := fun k hk => (h k hk).2
theorem Apart.step {F2 : Nat → Prop} (h : Apart w F2 F) (hs : w.heap.size ≤ w'.heap.size) (hn : ∀ k, F' k → F k ∨ w.heap.size ≤ k) : Apart w' F2 F' := fun k hk =>
  ⟨Nat.lt_of_lt_of_le (h k hk).1 hs, fun hk' => (hn k hk').elim (h k hk).2 (fun hh => by have := (h k hk).1; omega)⟩

/-- A value that is a slice of bytes. -/
def BytesV (w : World) (F : Nat → Prop) (v : Value) (bs : List UInt8) : Prop :=
  ∃ A c, v = .slice A bs.length c ∧ bs.length ≤ c ∧ c ≤ maxLen ∧ Sl w F A (bs.map fun b => .int .u8 (b.toNat : Int))
theorem BytesV.fr {v : Value} {bs : List UInt8} (h : BytesV w F v bs) (hf : Fr S w w') (hn : ∀ b, F b → ¬ S b) : BytesV w' F v bs := by
  obtain ⟨A, c, e, h1, h2, h3⟩ := h
  exact ⟨A, c, e, h1, h2, h3.fr hf hn⟩
theorem BytesV.mono {v : Value} {bs : List UInt8} (h : BytesV w F v bs) (hF : ∀ b, F b → b < w.heap.size → F' b) : BytesV w F' v bs := by
  obtain ⟨A, c, e, h1, h2, h3⟩ := h
  exact ⟨A, c, e, h1, h2, h3.mono hF⟩
/-- Values that are slices of bytes, one by one. -/
def RowsV (w : World) (F : Nat → Prop) (vs : List Value) (rs : List (List UInt8)) : Prop :=
  vs.length = rs.length ∧ ∀ k (h : k < rs.length), ∃ v, vs[k]? = some v ∧ BytesV w F v rs[k]
theorem RowsV.fr {vs : List Value} {rs : List (List UInt8)} (h : RowsV w F vs rs) (hf : Fr S w w') (hn : ∀ b, F b → ¬ S b) : RowsV w' F vs rs :=
  ⟨h.1, fun k hk => by obtain ⟨v, e, hv⟩ := h.2 k hk; exact ⟨v, e, hv.fr hf hn⟩⟩
theorem RowsV.mono {vs : List Value} {rs : List (List UInt8)} (h : RowsV w F vs rs) (hF : ∀ b, F b → b < w.heap.size → F' b) : RowsV w F' vs rs :=
  ⟨h.1, fun k hk => by obtain ⟨v, e, hv⟩ := h.2 k hk; exact ⟨v, e, hv.mono hF⟩⟩
end

end Go.Proofs.Ytoapobgnfgfobaa
