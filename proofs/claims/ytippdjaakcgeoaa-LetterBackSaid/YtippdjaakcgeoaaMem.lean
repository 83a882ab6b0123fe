/- Words for memory, over any program: a block that is known whole, a frame, a slice that reads as a list of cells. -/
import Derived.WalkKit
import Derived.WalkLawsBesides
import Derived.WalkSpells
import Derived.Below
import Derived.Laws.OwnMore
import Derived.Maps.AppendAt
import Derived.Deep.AppendLies
import Derived.Deep.Draws
import Derived.Lib.Hide
namespace Go.Proofs.Ytippdjaakcgeoaa
open Go Go.RowKit

/-- Block g is just these cells, none frozen. -/
def Blk (w : World) (g : Nat) (t : TypeId) (cs : Array Value) : Prop := w.heap[g]? = some (.cells cs t (0, 0))

/-- Only blocks of S, and new ones, have turned. -/
structure Fr (S : Nat → Prop) (w w' : World) : Prop where
  os : w'.os = w.os
  tape : w'.tape = w.tape
  output : w'.output = w.output
  size : w.heap.size ≤ w'.heap.size
  block : ∀ k, k < w.heap.size → ¬ S k → w'.heap[k]? = w.heap[k]?

section
variable {w w' w'' : World} {g : Nat} {t : TypeId} {cs : Array Value} {S S' : Nat → Prop}

theorem Blk.lt (h : Blk w g t cs) : g < w.heap.size := by
  rcases Nat.lt_or_ge g w.heap.size with hlt | hge
  · exact hlt
  · unfold Blk at h; rw [Array.getElem?_eq_none hge] at h; cases h
theorem Blk.cell (h : Blk w g t cs) (i : Nat) : w.cell? ⟨g, i, none⟩ = cs[i]? := cell_of_row w g i cs t (0, 0) h
theorem Blk.frozen (h : Blk w g t cs) (i : Nat) : w.frozen? ⟨g, i, none⟩ = false := by
  unfold Blk at h
  simp [World.frozen?, h]
theorem Blk.new (w : World) (t : TypeId) (cs : Array Value) : Blk (w.alloc (.cells cs t)) w.heap.size t cs := heap_alloc_new w _
theorem Blk.drew (h : Blk w g t cs) : Blk w.drew g t cs := h
theorem Blk.drewN (h : Blk w g t cs) (n : Nat) : Blk (w.drewN n) g t cs := h
theorem Blk.alloc (h : Blk w g t cs) (o : Obj) : Blk (w.alloc o) g t cs := (Below.heap_alloc w o g h.lt).trans h
theorem Blk.set_ (h : Blk w g t cs) (i : Nat) (u : Value) : Blk (w.setCell ⟨g, i, none⟩ u) g t (cs.setIfInBounds i u) := by
  unfold Blk at h ⊢
  simp [World.setCell, Array.getElem?_modify, h]
theorem Blk.far (h : Blk w g t cs) {p : Addr} (hp : g ≠ p.block) (u : Value) : Blk (w.setCell p u) g t cs := (Below.heap_setCell w p u g hp).trans h
theorem Blk.fr (h : Blk w g t cs) (hf : Fr S w w') (hg : ¬ S g) : Blk w' g t cs := (hf.block g h.lt hg).trans h
theorem Blk.inj {t' : TypeId} {cs' : Array Value} (h : Blk w g t cs) (h' : Blk w g t' cs') : t = t' ∧ cs = cs' := by
  unfold Blk at h h'
  rw [h] at h'
  injection h' with h'
  injection h' with h1 h2
  exact ⟨h2, h1⟩
theorem Blk.ne_ {g' : Nat} {t' : TypeId} {cs' : Array Value} (h : Blk w g t cs) (h' : Blk w g' t' cs') (hne : t ≠ t') : g ≠ g' := by
  rintro rfl
  exact hne (h.inj h').1

theorem Fr.refl (S : Nat → Prop) (w : World) : Fr S w w := ⟨rfl, rfl, rfl, Nat.le_refl _, fun _ _ _ => rfl⟩
/-- Two steps: what the second one may turn, the whole may turn, or it is new. -/
theorem Fr.trans (h : Fr S w w') (k : Fr S' w' w'') (hs : ∀ b, S' b → S b ∨ w.heap.size ≤ b) : Fr S w w'' :=
  ⟨k.os.trans h.os, k.tape.trans h.tape, k.output.trans h.output, Nat.le_trans h.size k.size, fun i hi hn =>
    (k.block i (Nat.lt_of_lt_of_le hi h.size) (fun hb => (hs i hb).elim hn (fun hh => by omega))).trans (h.block i hi hn)⟩
theorem Fr.mono (h : Fr S w w') (hs : ∀ b, S b → S' b ∨ w.heap.size ≤ b) : Fr S' w w' :=
  ⟨h.os, h.tape, h.output, h.size, fun i hi hn => h.block i hi (fun hb => (hs i hb).elim hn (fun hh => by omega))⟩
theorem Fr.tr (h : Fr S w w') (k : Fr S w' w'') : Fr S w w'' := h.trans k fun _ hb => .inl hb
theorem Fr.drew (h : Fr S w w') : Fr S w w'.drew := ⟨h.os, h.tape, h.output, h.size, h.block⟩
theorem Fr.drewN (h : Fr S w w') (n : Nat) : Fr S w (w'.drewN n) := ⟨h.os, h.tape, h.output, h.size, h.block⟩
theorem Fr.alloc (h : Fr S w w') (o : Obj) : Fr S w (w'.alloc o) :=
  ⟨h.os, h.tape, h.output, Nat.le_trans h.size (by simp), fun i hi hn => (Below.heap_alloc w' o i (Nat.lt_of_lt_of_le hi h.size)).trans (h.block i hi hn)⟩
theorem Fr.setCell (h : Fr S w w') {p : Addr} (hp : S p.block ∨ w.heap.size ≤ p.block) (u : Value) : Fr S w (w'.setCell p u) :=
  ⟨h.os, h.tape, h.output, by simpa [World.setCell] using h.size, fun i hi hn => (Below.heap_setCell w' p u i (by
    rintro rfl
    rcases hp with hp | hp
    · exact hn hp
    · omega)).trans (h.block i hi hn)⟩
theorem Fr.grown (h : Fr S w w') {row : Option Nat} (hg : w'.grownBy w'' row) (hr : ∀ k, row = some k → S k ∨ w.heap.size ≤ k) : Fr S w w'' :=
  h.trans (S' := fun k => row = some k) ⟨hg.os, hg.tape, hg.output, hg.size, fun i hi hn => hg.block i hi (fun e => hn e.symm)⟩ hr
theorem Fr.of_below (h : Below w.heap.size w w') : Fr S w w' := ⟨h.os, h.tape, h.output, h.size, fun i hi _ => h.block i hi⟩
theorem Fr.below {B : Nat} (h : Fr S w w') (hs : ∀ k, S k → B ≤ k) (hB : B ≤ w.heap.size) : Below B w w' :=
  ⟨h.os, h.tape, h.output, h.size, fun i hi => h.block i (by omega) (fun hb => by have := hs i hb; omega)⟩
theorem Fr.cell (h : Fr S w w') {p : Addr} (hp : p.block < w.heap.size) (hn : ¬ S p.block) : w'.cell? p = w.cell? p := World.cell?_of_block (w := w) (h.block p.block hp hn)
theorem Fr.frozen (h : Fr S w w') {p : Addr} (hp : p.block < w.heap.size) (hn : ¬ S p.block) : w'.frozen? p = w.frozen? p := World.frozen?_of_block (w := w) (h.block p.block hp hn)

/-- Only new blocks were made, or turned. -/
abbrev Nw (w w' : World) : Prop := Fr (fun _ => False) w w'
theorem Fr.new (h : Nw w w') (k : Fr S w' w'') (hs : ∀ b, S b → w.heap.size ≤ b) : Nw w w'' := h.trans k fun b hb => .inr (hs b hb)
theorem Nw.on (h : Nw w w') : Fr S w w' := h.mono fun _ h => h.elim

/-- The cells from A on are cs; they lie in a block of F. -/
def Sl (w : World) (F : Nat → Prop) (A : Option Addr) (cs : List Value) : Prop :=
  cs = [] ∨ ∃ b o, A = some ⟨b, o, none⟩ ∧ F b ∧ b < w.heap.size ∧ ∀ j u, cs[j]? = some u → w.cell? ⟨b, o + j, none⟩ = some u

variable {F F' : Nat → Prop} {A : Option Addr} {xs : List Value}
theorem Sl.nil (w : World) (F : Nat → Prop) (A : Option Addr) : Sl w F A [] := .inl rfl
theorem Sl.at_ (h : Sl w F A xs) (hne : xs ≠ []) : ∃ b o, A = some ⟨b, o, none⟩ ∧ F b ∧ b < w.heap.size ∧ ∀ j u, xs[j]? = some u → w.cell? ⟨b, o + j, none⟩ = some u := h.resolve_left hne
theorem Sl.fr (h : Sl w F A xs) (hf : Fr S w w') (hn : ∀ b, F b → ¬ S b) : Sl w' F A xs := by
  rcases h with h | ⟨b, o, hA, hF, hb, hc⟩
  · exact .inl h
  · exact .inr ⟨b, o, hA, hF, Nat.lt_of_lt_of_le hb hf.size, fun j u hu => (hf.cell hb (hn b hF)).trans (hc j u hu)⟩
theorem Sl.mono (h : Sl w F A xs) (hF : ∀ b, F b → b < w.heap.size → F' b) : Sl w F' A xs := by
  rcases h with h | ⟨b, o, hA, hFb, hb, hc⟩
  · exact .inl h
  · exact .inr ⟨b, o, hA, hF b hFb hb, hb, hc⟩
/-- The address of 's[l:..]'. -/
def cutA (A : Option Addr) (m l s : Nat) : Option Addr := if m = l then A else A.map (·.add (l * s))
theorem Sl.cut {n m s l k : Nat} (h : Sl w F A xs) (hl : xs.length = n * s) (hk : k ≤ n) (hm : n ≤ m) (hlk : l ≤ k) : Sl w F (cutA A m l s) ((xs.drop (l * s)).take ((k - l) * s)) := by
  by_cases he : (xs.drop (l * s)).take ((k - l) * s) = []
  · exact .inl he
  have hne : xs ≠ [] := by rintro rfl; simp at he
  have hlt : ¬ m = l := by
    intro e
    have : k - l = 0 := by omega
    rw [this] at he
    simp at he
  obtain ⟨b, o, rfl, hF, hb, hc⟩ := h.at_ hne
  refine .inr ⟨b, o + l * s, ?_, hF, hb, fun j u hu => ?_⟩
  · simp only [cutA, if_neg hlt, Option.map_some, Addr.add_lit]
  · rw [List.getElem?_take] at hu
    split at hu
    · rw [List.getElem?_drop] at hu
      rw [Nat.add_assoc]
      exact hc _ u hu
    · cases hu
theorem Sl.drop {n m s l : Nat} (h : Sl w F A xs) (hl : xs.length = n * s) (hm : n ≤ m) (hln : l ≤ n) : Sl w F (cutA A m l s) (xs.drop (l * s)) := by
  have := h.cut (k := n) hl (Nat.le_refl _) hm hln
  rwa [List.take_of_length_le (by rw [List.length_drop, hl, Nat.sub_mul]; exact Nat.le_refl _)] at this
theorem Sl.take {n m s k : Nat} (h : Sl w F A xs) (hl : xs.length = n * s) (hk : k ≤ n) (hm : n ≤ m) : Sl w F (cutA A m 0 s) (xs.take (k * s)) := by
  have := h.cut (l := 0) hl hk hm (Nat.zero_le _)
  simpa using this
theorem cutA_zero (A : Option Addr) (m s : Nat) : cutA A m 0 s = A := by
  unfold cutA
  split
  · rfl
  · cases A <;> simp [Addr.add]
theorem Sl.pre {k : Nat} (h : Sl w F A xs) : Sl w F A (xs.take k) := by
  rcases h with rfl | ⟨b, o, hA, hF, hb, hc⟩
  · exact .inl (by simp)
  · refine .inr ⟨b, o, hA, hF, hb, fun j u hu => hc j u ?_⟩
    rw [List.getElem?_take] at hu
    split at hu
    · exact hu
    · cases hu
/-- A slice of a block that is known whole. -/
theorem Blk.sl (h : Blk w g t cs) (o : Nat) (k : Nat) : Sl w (· = g) (some ⟨g, o, none⟩) ((cs.toList.drop o).take k) := by
  refine .inr ⟨g, o, rfl, rfl, h.lt, fun j u hu => ?_⟩
  rw [h.cell, ← Array.getElem?_toList]
  rw [List.getElem?_take] at hu
  split at hu
  · rwa [List.getElem?_drop] at hu
  · cases hu
end

/-- The block of an address. -/
def inA (A : Option Addr) (k : Nat) : Prop := ∃ a, A = some a ∧ a.block = k
theorem inA_none (k : Nat) : ¬ inA none k := by rintro ⟨a, h, _⟩; cases h
theorem inA_some (a : Addr) (k : Nat) : inA (some a) k ↔ k = a.block := by
  constructor
  · rintro ⟨_, h, rfl⟩; injection h with h; rw [h]
  · rintro rfl; exact ⟨_, rfl, rfl⟩

/-- A slice of the call's own: it begins at its block's head, nothing of the block is frozen. -/
def Own (w : World) (E : TypeId) (size : Nat) (A : Option Addr) (n cap : Nat) (cs : List Value) : Prop :=
  cs.length = n * size ∧ ((A = none ∧ n = 0 ∧ cap = 0) ∨
    ∃ g cur, A = some ⟨g, 0, none⟩ ∧ Blk w g E cur ∧ n ≤ cap ∧ cap ≤ maxLen ∧ cur.size = cap * size ∧ cur.toList.take (n * size) = cs)

section
variable {w w' : World} {E : TypeId} {size n cap : Nat} {A : Option Addr} {cs : List Value} {S F : Nat → Prop}
theorem Own.nil (w : World) (E : TypeId) (size : Nat) : Own w E size none 0 0 [] := ⟨by simp, .inl ⟨rfl, rfl, rfl⟩⟩
theorem Own.fr (h : Own w E size A n cap cs) (hf : Fr S w w') (hn : ∀ k, inA A k → ¬ S k) : Own w' E size A n cap cs := by
  refine ⟨h.1, ?_⟩
  rcases h.2 with h2 | ⟨g, cur, rfl, hb, r⟩
  · exact .inl h2
  · exact .inr ⟨g, cur, rfl, hb.fr hf (hn g ((inA_some _ _).2 rfl)), r⟩
theorem Own.sl (h : Own w E size A n cap cs) : Sl w (inA A) A cs := by
  rcases h.2 with ⟨_, rfl, _⟩ | ⟨g, cur, rfl, hb, _, _, _, rfl⟩
  · exact .inl (List.eq_nil_of_length_eq_zero (by simpa using h.1))
  · have := hb.sl 0 (n * size)
    rw [List.drop_zero] at this
    exact this.mono fun b hb' _ => (inA_some _ _).2 hb'
theorem Own.lt (h : Own w E size A n cap cs) : ∀ k, inA A k → k < w.heap.size := by
  intro k hk
  rcases h.2 with ⟨rfl, _⟩ | ⟨g, cur, rfl, hb, _⟩
  · exact (inA_none _ hk).elim
  · rw [(inA_some _ _).1 hk]; exact hb.lt
theorem Own.ne_ {g : Nat} {t : TypeId} {bs : Array Value} (h : Own w E size A n cap cs) (hb : Blk w g t bs) (hne : t ≠ E) : ¬ inA A g := by
  intro hk
  rcases h.2 with ⟨rfl, _⟩ | ⟨g', cur, rfl, hb', _⟩
  · exact inA_none _ hk
  · have := (inA_some _ _).1 hk
    subst this
    exact hne (hb.inj hb').1
theorem Own.cap_le (h : Own w E size A n cap cs) : n ≤ cap ∧ cap ≤ maxLen := by
  rcases h.2 with ⟨_, rfl, rfl⟩ | ⟨g, cur, rfl, hb, h1, h2, _⟩
  · exact ⟨Nat.le_refl _, Nat.zero_le _⟩
  · exact ⟨h1, h2⟩
theorem Own.alloc (h : Own w E size A n cap cs) (o : Obj) : Own (w.alloc o) E size A n cap cs :=
  h.fr (S := fun _ => False) ((Fr.refl _ w).alloc o) (fun _ _ h => h)
theorem Own.setCell (h : Own w E size A n cap cs) {p : Addr} (hp : ¬ inA A p.block) (u : Value) : Own (w.setCell p u) E size A n cap cs :=
  h.fr (S := (· = p.block)) ((Fr.refl (· = p.block) w).setCell (.inl rfl) u) (fun k hk (e : k = p.block) => hp (e ▸ hk))
theorem Own.drewN (h : Own w E size A n cap cs) (k : Nat) : Own (w.drewN k) E size A n cap cs := h
theorem Sl.setCell {F : Nat → Prop} {xs : List Value} (h : Sl w F A xs) {p : Addr} (hp : ¬ F p.block) (u : Value) : Sl (w.setCell p u) F A xs :=
  h.fr (S := (· = p.block)) ((Fr.refl (· = p.block) w).setCell (.inl rfl) u) (fun k hk (e : k = p.block) => hp (e ▸ hk))
theorem Sl.alloc {F : Nat → Prop} {xs : List Value} (h : Sl w F A xs) (o : Obj) : Sl (w.alloc o) F A xs :=
  h.fr (S := fun _ => False) ((Fr.refl _ w).alloc o) (fun _ _ h => h)
theorem Sl.drewN {F : Nat → Prop} {xs : List Value} (h : Sl w F A xs) (k : Nat) : Sl (w.drewN k) F A xs := h
theorem Own.new (w : World) (E : TypeId) (size n cap : Nat) (cur : Array Value) (hc : n ≤ cap) (hm : cap ≤ maxLen) (hs : cur.size = cap * size) :
    Own (w.alloc (.cells cur E)) E size (some ⟨w.heap.size, 0, none⟩) n cap (cur.toList.take (n * size)) := by
  refine ⟨?_, .inr ⟨w.heap.size, cur, rfl, Blk.new w E cur, hc, hm, hs, rfl⟩⟩
  rw [List.length_take, Array.length_toList, hs]
  exact Nat.min_eq_left (Nat.mul_le_mul_right _ hc)
theorem Own.owns (h : Own w E size A n cap cs) : w.ownsRow 0 E size (.slice A n cap) n cs := by
  refine ⟨h.1, ?_⟩
  rcases h.2 with ⟨rfl, rfl, rfl⟩ | ⟨g, cur, rfl, hb, r⟩
  · exact .inl ⟨rfl, rfl⟩
  · exact .inr ⟨g, cap, cur, rfl, Nat.zero_le _, hb, r⟩
theorem own_of_owns {v : Value} (h : w.ownsRow 0 E size v n cs) : ∃ A cap, v = .slice A n cap ∧ Own w E size A n cap cs := by
  rcases h.2 with ⟨rfl, rfl⟩ | ⟨g, cap, cur, rfl, _, hb, r⟩
  · exact ⟨none, 0, rfl, h.1, .inl ⟨rfl, rfl, rfl⟩⟩
  · exact ⟨some ⟨g, 0, none⟩, cap, rfl, h.1, .inr ⟨g, cur, rfl, hb, r⟩⟩

variable {P : Program}
/-- What an append leaves: it had room, or it grew. -/
def AppTo (w : World) (E : TypeId) (size : Nat) (A : Option Addr) (n cap m : Nat) (cs news : List Value) (A' : Option Addr) (cap' : Nat) (w' : World) : Prop :=
  Own w' E size A' (n + m) cap' (cs ++ news) ∧ Own w' E size A n cap cs ∧
    ((n + m ≤ cap ∧ A' = A ∧ cap' = cap ∧ Fr (inA A) w w') ∨ (cap < n + m ∧ A' = some ⟨w.heap.size, 0, none⟩ ∧ Nw w w'))

/-- 'append(s, x...)', s the call's own, x whatever reads as a list. -/
theorem run_append_two (w : World) (t ty : TypeId) (bytes : Nat) (z : Value) (ht : P.underlying t = some (.slice E))
    (hinfo : (P.info? E).map (fun i => (i.zero, i.size, i.bytes)) = some (some z, size, bytes)) (hzs : z.cells.size = size) (hsz : 0 < size)
    (hown : Own w E size A n cap cs) {A2 : Option Addr} {m c : Nat} {news : List Value} (hsl : Sl w F A2 news) (hl : news.length = m * size) (h1 : ∀ u ∈ news, u.oneCell' = true)
    (hbytes : (n + m) * bytes ≤ 140737488355328) (hmax : n + m ≤ maxLen) :
    ∃ A' cap' w', (Builtin.append_ #[t, t] ty #[.slice A n cap, .slice A2 m c]).run P w = .ok (.slice A' (n + m) cap') w' ∧ AppTo w E size A n cap m cs news A' cap' w' := by
  obtain ⟨i, hi, hz0, hz1, hz2⟩ := info_parts hinfo
  subst hz1
  subst hz2
  have hsmall : n + m ≤ 9223372036854775807 := by simp only [maxLen] at hmax; omega
  have hlen : (cs ++ news).length = (n + m) * i.size := by rw [List.length_append, hown.1, hl, Nat.add_mul]
  have hcap := hown.cap_le
  by_cases hm0 : m = 0
  · subst hm0
    have hn : news = [] := List.eq_nil_of_length_eq_zero (by simpa using hl)
    subst hn
    have hrun : (Builtin.append_ #[t, t] ty #[.slice A n cap, .slice A2 0 c]).run P w = .ok (.slice A n cap) w := by
      rcases hown.2 with ⟨rfl, rfl, rfl⟩ | ⟨g, cur, rfl, _, hnc, _⟩
      · cases A2 <;> simp [Builtin.append_, run_underlying ht, sizeOf, typeInfo, hi, Builtin.lenOf, Builtin.firstCells, loadCells, loadCellsFrom]
      · cases A2 <;> simp [Builtin.append_, run_underlying ht, sizeOf, typeInfo, hi, Builtin.lenOf, Builtin.firstCells, hnc, storeCells, loadCells, loadCellsFrom]
    exact ⟨A, cap, w, by simpa using hrun, by simpa using hown, hown, .inl ⟨by omega, rfl, rfl, Fr.refl _ _⟩⟩
  · have hne : news ≠ [] := by
      rintro rfl
      have := Nat.mul_pos (Nat.pos_of_ne_zero hm0) hsz
      simp at hl; omega
    obtain ⟨b, o, rfl, _, _, hc⟩ := hsl.at_ hne
    have hcells : ∀ j u, news[j]? = some u → w.cell? ((⟨b, o, none⟩ : Addr).add j) = some u := by
      intro j u hu
      rw [Addr.add_lit]
      exact hc j u hu
    by_cases hroom : n + m ≤ cap
    · rcases hown.2 with ⟨rfl, rfl, rfl⟩ | ⟨g, cur, rfl, hg, hnc, hcm, hcs, htake⟩
      · omega
      · have hfit : n * i.size + news.length ≤ cur.size := by rw [hl, hcs, ← Nat.add_mul]; exact Nat.mul_le_mul_right _ hroom
        have hr := run_append_room (P := P) w t ty E i ht hi g n cap cur hg _ m c news hl hcells h1 hroom hfit
        have hnew : Blk (w.setRow g (cur.toList.take (n * i.size) ++ news ++ cur.toList.drop (n * i.size + news.length)).toArray) g E (cur.toList.take (n * i.size) ++ news ++ cur.toList.drop (n * i.size + news.length)).toArray := setRow_heap w g cur _ E _ hg
        have hnl : (cur.toList.take (n * i.size)).length = n * i.size := by rw [htake]; exact hown.1
        have hsz2 : (cur.toList.take (n * i.size) ++ news ++ cur.toList.drop (n * i.size + news.length)).toArray.size = cap * i.size := by
          simp only [List.size_toArray, List.length_append, List.length_take, List.length_drop, Array.length_toList]
          omega
        refine ⟨_, _, _, hr, ⟨hlen, .inr ⟨g, _, rfl, hnew, hroom, hcm, hsz2, ?_⟩⟩, ⟨hown.1, .inr ⟨g, _, rfl, hnew, hnc, hcm, hsz2, ?_⟩⟩, .inl ⟨hroom, rfl, rfl, ?_⟩⟩
        · rw [htake, ← hlen]
          exact List.take_left
        · rw [htake, List.append_assoc]
          have := hown.1
          rw [← this]
          exact List.take_left
        · exact ⟨rfl, rfl, rfl, by simp, fun k _ hk => setRow_other w g k _ (fun e => hk ((inA_some _ _).2 e))⟩
    · have hlt : cap < n + m := by omega
      have fin : ∀ old, (Builtin.append_ #[t, t] ty #[.slice A n cap, .slice (some ⟨b, o, none⟩) m c]).run P w = .ok (.slice (some ⟨w.heap.size, 0, none⟩) (n + m) (grownCap w (n + m) old E))
            (w.drew.alloc (.cells (cs.toArray ++ news.toArray ++ Builtin.zeroCells z.cells (grownCap w (n + m) old E - (n + m))) E)) →
          ∃ A' cap' w', (Builtin.append_ #[t, t] ty #[.slice A n cap, .slice (some ⟨b, o, none⟩) m c]).run P w = .ok (.slice A' (n + m) cap') w' ∧ AppTo w E i.size A n cap m cs news A' cap' w' := by
        intro old hr
        have hge := grownCap_ge w (n + m) old E
        have hcm : grownCap w (n + m) old E ≤ maxLen := grownCap_le_maxLen w (n + m) old E hmax
        refine ⟨_, _, _, hr, ⟨hlen, .inr ⟨w.heap.size, _, rfl, heap_alloc_new w.drew _, hge, hcm, ?_, ?_⟩⟩, ?_, .inr ⟨hlt, rfl, ((Fr.refl _ w).drew).alloc _⟩⟩
        · simp only [Array.size_append, List.size_toArray, size_zeroCells, hzs, hown.1, hl, ← Nat.add_mul]
          congr 1
          omega
        · simp only [Array.toList_append, List.append_assoc]
          rw [← List.append_assoc, ← hlen]
          exact List.take_left
        · exact hown.fr (S := fun _ => False) (((Fr.refl _ w).drew).alloc _) (fun _ _ h => h)
      rcases hown.2 with ⟨rfl, rfl, rfl⟩ | ⟨g, cur, rfl, hg, hnc, hcm, hcs, htake⟩
      · have hx : cs = [] := List.eq_nil_of_length_eq_zero (by simpa using hown.1)
        subst hx
        refine fin 0 ?_
        have hr := run_append_nil (P := P) w t ty E i z ht hi hz0 _ m c news hl hcells (by omega) (by omega) (by have hb := hbytes; simp only [Nat.zero_add] at hb; omega)
        simp only [Nat.zero_add, Array.empty_append] at hr ⊢
        exact hr
      · refine fin cap ?_
        have holds : ∀ j u, cs[j]? = some u → w.cell? ((⟨g, 0, none⟩ : Addr).add j) = some u := by
          intro j u hu
          rcases hown.sl with h | ⟨b', o', h, _, _, hc'⟩
          · subst h; simp at hu
          · injection h with h
            injection h with h1 h2
            subst h1; subst h2
            rw [Addr.add_lit]
            exact hc' j u hu
        exact run_append_grow (P := P) w t ty E i z ht hi hz0 ⟨g, 0, none⟩ n cap cs hown.1 holds _ m c news hl hcells (by omega) (by omega) (growslice_fits (by omega) hbytes)

theorem run_append_sl (w : World) (t ty : TypeId) (bytes : Nat) (z : Value) (ht : P.underlying t = some (.slice E))
    (hinfo : (P.info? E).map (fun i => (i.zero, i.size, i.bytes)) = some (some z, size, bytes)) (hzs : z.cells.size = size) (hsz : 0 < size)
    (hown : Own w E size A n cap cs) {A2 : Option Addr} {m c : Nat} {news : List Value} (hsl : Sl w F A2 news) (hl : news.length = m * size) (h1 : ∀ u ∈ news, u.oneCell' = true)
    (hbytes : (n + m) * bytes ≤ 140737488355328) (hmax : n + m ≤ maxLen) :
    ∃ A' cap' w', (Builtin.append_ #[t, t] ty #[.slice A n cap, .slice A2 m c]).run P w = .ok (.slice A' (n + m) cap') w' ∧ Own w' E size A' (n + m) cap' (cs ++ news) ∧ Fr (inA A) w w' ∧
      (∀ k, inA A' k → inA A k ∨ k = w.heap.size) := by
  obtain ⟨A', cap', w', hrun, h2, _, h3⟩ := run_append_two (P := P) w t ty bytes z ht hinfo hzs hsz hown hsl hl h1 hbytes hmax (c := c)
  refine ⟨A', cap', w', hrun, h2, ?_⟩
  rcases h3 with ⟨_, rfl, rfl, hf⟩ | ⟨_, rfl, hf⟩
  · exact ⟨hf, fun k hk => .inl hk⟩
  · exact ⟨Nw.on hf, fun k hk => .inr ((inA_some _ _).1 hk)⟩

/-- The walk over such an append. -/
theorem wl_append {w : World} {ops : Array Oper} {rest : List Oper} {o : Oper} {a : Act} {Q : Exit → Act → World → Prop} (hgd : o.guard = none) (s x : Operand) (t : TypeId)
    (ho : o.op = .call { callee := .builtin .append, args := #[s, x], argTypes := #[t, t] }) (bytes : Nat) (z : Value) (ht : P.underlying t = some (.slice E))
    (hinfo : (P.info? E).map (fun i => (i.zero, i.size, i.bytes)) = some (some z, size, bytes)) (hzs : z.cells.size = size) (hsz : 0 < size)
    (hs : a.eval s = .slice A n cap) (hown : Own w E size A n cap cs) {A2 : Option Addr} {m c : Nat} {news : List Value} (hx : a.eval x = .slice A2 m c) (hsl : Sl w F A2 news) (hl : news.length = m * size) (h1 : ∀ u ∈ news, u.oneCell' = true)
    (hbytes : (n + m) * bytes ≤ 140737488355328) (hmax : n + m ≤ maxLen)
    (h : ∀ A' cap' w', Own w' E size A' (n + m) cap' (cs ++ news) → Fr (inA A) w w' → (∀ k, inA A' k → inA A k ∨ k = w.heap.size) → wpList P ops Q rest (a.put o.dst (.slice A' (n + m) cap')) w') :
    wpList P ops Q (o :: rest) a w := by
  refine wpList_plain hgd fun K hK' => ?_
  obtain ⟨A', cap', w', hrun, h2, h3, h4⟩ := run_append_sl (P := P) w t o.type bytes z ht hinfo hzs hsz hown hsl hl h1 hbytes hmax
  unfold Oper.wp execOp
  simp only [ho, resolve, invoke, builtin, Sem.run_bind, Sem.run_pure, Result.andThen_ok, List.map_toArray, List.map_cons, List.map_nil, hs, hx]
  rw [hrun]
  exact hK' _ _ (h A' cap' w' h2 h3 h4)

/-- The same, and all that is known. -/
theorem wl_append2 {w : World} {ops : Array Oper} {rest : List Oper} {o : Oper} {a : Act} {Q : Exit → Act → World → Prop} (hgd : o.guard = none) (s x : Operand) (t : TypeId)
    (ho : o.op = .call { callee := .builtin .append, args := #[s, x], argTypes := #[t, t] }) (bytes : Nat) (z : Value) (ht : P.underlying t = some (.slice E))
    (hinfo : (P.info? E).map (fun i => (i.zero, i.size, i.bytes)) = some (some z, size, bytes)) (hzs : z.cells.size = size) (hsz : 0 < size)
    (hs : a.eval s = .slice A n cap) (hown : Own w E size A n cap cs) {A2 : Option Addr} {m c : Nat} {news : List Value} (hx : a.eval x = .slice A2 m c) (hsl : Sl w F A2 news) (hl : news.length = m * size) (h1 : ∀ u ∈ news, u.oneCell' = true)
    (hbytes : (n + m) * bytes ≤ 140737488355328) (hmax : n + m ≤ maxLen)
    (h : ∀ A' cap' w', AppTo w E size A n cap m cs news A' cap' w' → wpList P ops Q rest (a.put o.dst (.slice A' (n + m) cap')) w') :
    wpList P ops Q (o :: rest) a w := by
  refine wpList_plain hgd fun K hK' => ?_
  obtain ⟨A', cap', w', hrun, h2⟩ := run_append_two (P := P) w t o.type bytes z ht hinfo hzs hsz hown hsl hl h1 hbytes hmax (c := c)
  unfold Oper.wp execOp
  simp only [ho, resolve, invoke, builtin, Sem.run_bind, Sem.run_pure, Result.andThen_ok, List.map_toArray, List.map_cons, List.map_nil, hs, hx]
  rw [hrun]
  exact hK' _ _ (h A' cap' w' h2)
end


section
variable {P : Program} {w : World} {E : TypeId} {size : Nat}
/-- 'make([]T, 0, n)'. -/
theorem wl_make0 {ops : Array Oper} {rest : List Oper} {o : Oper} {a : Act} {Q : Exit → Act → World → Prop} (hgd : o.guard = none) (l c : Operand) (t : TypeId) (hop : o.op = Op.makeSlice t l c) (bytes : Nat) (z : Value)
    (ht : P.underlying t = some (.slice E)) (hinfo : (P.info? E).map (fun i => (i.zero, i.size, i.bytes)) = some (some z, size, bytes)) (kl kc : IntKind) (C : Int) (n : Nat) (hl : a.eval l = .int kl 0) (hc : a.eval c = .int kc C) (hC : C = (n : Int))
    (hb : bytes * n ≤ 281474976710656) (hm : n ≤ maxLen)
    (h : ∀ w', Own w' E size (some ⟨w.heap.size, 0, none⟩) 0 n [] → Nw w w' → wpList P ops Q rest (a.put o.dst (.slice (some ⟨w.heap.size, 0, none⟩) 0 n)) w') : wpList P ops Q (o :: rest) a w := by
  obtain ⟨i, hi, hz0, hz1, hz2⟩ := info_parts hinfo
  subst hz2
  refine wpList_make_own w hgd l c t hop 0 E i z size ht hi hz0 hz1 kl kc C n hl hc hC hb hm (Nat.zero_le _) fun w' r1 r2 => ?_
  obtain ⟨A, cap, he, ho⟩ := own_of_owns r1
  injection he with he1 he2 he3
  subst he1; subst he3
  exact h w' ho ⟨r2.os, r2.tape, r2.output, r2.size, fun k hk _ => r2.block k hk (by simp)⟩
/-- 'make([]T, n)'. -/
theorem wl_make {ops : Array Oper} {rest : List Oper} {o : Oper} {a : Act} {Q : Exit → Act → World → Prop} (hgd : o.guard = none) (l c : Operand) (t : TypeId) (hop : o.op = Op.makeSlice t l c) (bytes : Nat) (z : Value)
    (ht : P.underlying t = some (.slice E)) (hinfo : (P.info? E).map (fun i => (i.zero, i.size, i.bytes)) = some (some z, 1, bytes)) (hz1c : z.cells = #[z]) (kl kc : IntKind) (C1 C2 : Int) (n : Nat) (hl : a.eval l = .int kl C1) (hc : a.eval c = .int kc C2) (hC1 : C1 = (n : Int)) (hC2 : C2 = (n : Int))
    (hb : bytes * n ≤ 281474976710656) (hm : n ≤ maxLen)
    (h : ∀ w', Own w' E 1 (some ⟨w.heap.size, 0, none⟩) n n (List.replicate n z) → Nw w w' → wpList P ops Q rest (a.put o.dst (.slice (some ⟨w.heap.size, 0, none⟩) n n)) w') : wpList P ops Q (o :: rest) a w := by
  obtain ⟨i, hi, hz0, hz1, hz2⟩ := info_parts hinfo
  subst hz2
  refine wpList_make_full w hgd l c t hop 0 E i z 1 ht hi hz0 hz1 kl kc C1 C2 n hl hc hC1 hC2 hb hm (Nat.zero_le _) fun w' r1 r2 => ?_
  obtain ⟨A, cap, he, ho⟩ := own_of_owns r1
  injection he with he1 he2 he3
  subst he1; subst he3
  rw [hz1c, Nat.mul_one, toList_madeCells_one] at ho
  exact h w' ho ⟨r2.os, r2.tape, r2.output, r2.size, fun k hk _ => r2.block k hk (by simp)⟩
end

section
variable {w : World} {E : TypeId} {size n cap : Nat} {g : Nat} {cs : List Value}
theorem Own.blk (h : Own w E size (some ⟨g, 0, none⟩) n cap cs) : ∃ cur, Blk w g E cur ∧ n ≤ cap ∧ cap ≤ maxLen ∧ cur.size = cap * size ∧ cur.toList.take (n * size) = cs := by
  rcases h.2 with ⟨h, _⟩ | ⟨g', cur, h, r⟩
  · cases h
  · injection h with h; injection h with h; subst h; exact ⟨cur, r⟩
theorem Own.cellAt (h : Own w E size (some ⟨g, 0, none⟩) n cap cs) {k : Nat} (hk : k < n * size) : w.cell? ⟨g, k, none⟩ = cs[k]? := by
  obtain ⟨cur, hb, _, _, _, rfl⟩ := h.blk
  rw [hb.cell, List.getElem?_take, if_pos hk, Array.getElem?_toList]
theorem Own.frozenAt (h : Own w E size (some ⟨g, 0, none⟩) n cap cs) (k : Nat) : w.frozen? ⟨g, k, none⟩ = false := by
  obtain ⟨cur, hb, _⟩ := h.blk
  exact hb.frozen k
theorem Own.store (h : Own w E size (some ⟨g, 0, none⟩) n cap cs) (k : Nat) (u : Value) : Own (w.setCell ⟨g, k, none⟩ u) E size (some ⟨g, 0, none⟩) n cap (cs.set k u) := by
  obtain ⟨cur, hb, h1, h2, h3, rfl⟩ := h.blk
  refine ⟨by simpa using h.1, .inr ⟨g, _, rfl, hb.set_ k u, h1, h2, by simpa using h3, ?_⟩⟩
  rw [Array.toList_setIfInBounds, List.take_set]
theorem Own.pre {k : Nat} {A : Option Addr} (h : Own w E size A n cap cs) (hk : k ≤ n) (hA : A ≠ none) : Own w E size A k cap (cs.take (k * size)) := by
  rcases h.2 with ⟨rfl, _⟩ | ⟨g', cur, rfl, hb, h1, h2, h3, h4⟩
  · exact (hA rfl).elim
  · refine ⟨?_, .inr ⟨g', cur, rfl, hb, by omega, h2, h3, ?_⟩⟩
    · rw [List.length_take, h.1]; exact Nat.min_eq_left (Nat.mul_le_mul_right _ hk)
    · rw [← h4, List.take_take]; congr 1; exact (Nat.min_eq_left (Nat.mul_le_mul_right _ hk)).symm
end

/- Slicing as the walk is to write it: the address behind a name, no 'if' to part on. Laid into the context ahead of a walk. -/
section
variable {P : Program} (t : TypeId) (ht : P.underlying t = some (.slice (P.elem t))) (s : Nat) (hz : ∀ w, (sizeOf (P.elem t)).run P w = .ok s w) (a : Option Addr) (len cap : Nat)
include ht hz
theorem slice_lh (l h : Nat) (h1 : l ≤ h) (h2 : h ≤ cap) (w : World) :
    (Instr.slice t (.slice a len cap) (some (.int .i64 (l : Int))) (some (.int .i64 (h : Int))) none).run P w = .ok (.slice (cutA a cap l s) (h - l) (cap - l)) w := by
  rw [run_slice_lh w t a len cap ht .i64 .i64 l h (by omega) (by omega) (by omega), hz]; rfl
theorem slice_h (h : Nat) (h2 : h ≤ cap) (w : World) :
    (Instr.slice t (.slice a len cap) none (some (.int .i64 (h : Int))) none).run P w = .ok (.slice a h cap) w := by
  rw [run_slice_h w t a len cap ht .i64 h (by omega) (by omega), hz]
  have e : (if cap = 0 then a else a.map (·.add (0 * s))) = a := cutA_zero a cap s
  simp only [Result.andThen, sliced, e, Int.toNat_natCast, Nat.sub_zero]
theorem slice_l (l : Nat) (h1 : l ≤ len) (w : World) :
    (Instr.slice t (.slice a len cap) (some (.int .i64 (l : Int))) none none).run P w = .ok (.slice (cutA a cap l s) (len - l) (cap - l)) w := by
  rw [run_slice_l w t a len cap ht .i64 l (by omega) (by omega), hz]; rfl
theorem slice_hm (h m : Nat) (h1 : h ≤ m) (h2 : m ≤ cap) (w : World) :
    (Instr.slice t (.slice a len cap) none (some (.int .i64 (h : Int))) (some (.int .i64 (m : Int)))).run P w = .ok (.slice a h m) w := by
  rw [run_slice_hm w t a len cap ht .i64 .i64 h m (by omega) (by omega) (by omega), hz]
  have e : (if m = 0 then a else a.map (·.add (0 * s))) = a := cutA_zero a m s
  simp only [Result.andThen, sliced, e, Int.toNat_natCast, Nat.sub_zero]
end

/-- An integer as a value. -/
abbrev I64 (n : Int) : Value := .int .i64 n

section
variable {w w' : World} {F F' S : Nat → Prop} {A : Option Addr} {α : Type}
theorem Sl.get {f : α → Value} {l : List α} (h : Sl w F A (l.map f)) {k : Nat} (hk : k < l.length) : ∃ b o, A = some ⟨b, o, none⟩ ∧ F b ∧ w.cell? ⟨b, o + k, none⟩ = some (f l[k]) := by
  obtain ⟨b, o, hA, hF, _, hc⟩ := h.at_ (by intro e; have := congrArg List.length e; simp at this; simp [this] at hk)
  exact ⟨b, o, hA, hF, hc k _ (by simp [hk])⟩
theorem foldl_take_succ {β : Type} (f : β → α → β) (l : List α) (k : Nat) (h : k < l.length) (s : β) : (l.take (k + 1)).foldl f s = f ((l.take k).foldl f s) l[k] := by
  rw [List.take_succ_eq_append_getElem h, List.foldl_append]
  rfl

/-- What lies in F2 is there, and is not of F. -/
def Apart (w : World) (F2 F : Nat → Prop) : Prop := ∀ k, F2 k → k < w.heap.size ∧ ¬ F k
theorem Apart.no {F2 : Nat → Prop} (h : Apart w F2 F) : ∀ k, F2 k → ¬ F k := fun k hk => (h k hk).2
theorem Apart.step {F2 : Nat → Prop} (h : Apart w F2 F) (hs : w.heap.size ≤ w'.heap.size) (hn : ∀ k, F' k → F k ∨ w.heap.size ≤ k) : Apart w' F2 F' := fun k hk =>
  ⟨Nat.lt_of_lt_of_le (h k hk).1 hs, fun hk' => (hn k hk').elim (h k hk).2 (fun hh => by have := (h k hk).1; omega)⟩

/-- A value that is a slice of bytes. -/
def BytesV (w : World) (F : Nat → Prop) (v : Value) (bs : List UInt8) : Prop :=
  ∃ A c, v = .slice A bs.length c ∧ bs.length ≤ c ∧ c ≤ maxLen ∧ Sl w F A (bs.map fun b => .int .u8 (b.toNat : Int))
theorem BytesV.fr {v : Value} {bs : List UInt8} (h : BytesV w F v bs) (hf : Fr S w w') (hn : ∀ b, F b → ¬ S b) : BytesV w' F v bs := by
  obtain ⟨A, c, e, h1, h2, h3⟩ := h
  exact ⟨A, c, e, h1, h2, h3.fr hf hn⟩
theorem BytesV.mono {v : Value} {bs : List UInt8} (h : BytesV w F v bs) (hF : ∀ b, F b → b < w.heap.size → F' b) : BytesV w F' v bs := by
  obtain ⟨A, c, e, h1, h2, h3⟩ := h
  exact ⟨A, c, e, h1, h2, h3.mono hF⟩
/-- Values that are slices of bytes, one by one. -/
def RowsV (w : World) (F : Nat → Prop) (vs : List Value) (rs : List (List UInt8)) : Prop :=
  vs.length = rs.length ∧ ∀ k (h : k < rs.length), ∃ v, vs[k]? = some v ∧ BytesV w F v rs[k]
theorem RowsV.fr {vs : List Value} {rs : List (List UInt8)} (h : RowsV w F vs rs) (hf : Fr S w w') (hn : ∀ b, F b → ¬ S b) : RowsV w' F vs rs :=
  ⟨h.1, fun k hk => by obtain ⟨v, e, hv⟩ := h.2 k hk; exact ⟨v, e, hv.fr hf hn⟩⟩
theorem RowsV.mono {vs : List Value} {rs : List (List UInt8)} (h : RowsV w F vs rs) (hF : ∀ b, F b → b < w.heap.size → F' b) : RowsV w F' vs rs :=
  ⟨h.1, fun k hk => by obtain ⟨v, e, hv⟩ := h.2 k hk; exact ⟨v, e, hv.mono hF⟩⟩
end

end Go.Proofs.Ytippdjaakcgeoaa
