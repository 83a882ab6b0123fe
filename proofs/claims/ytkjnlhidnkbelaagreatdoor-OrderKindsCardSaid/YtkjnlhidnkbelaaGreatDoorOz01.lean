/- Lemmas of the walks: Gr1. (Laid together by shake.py.) -/
import Derived.WalkKit
import Derived.WalkLawsBesides
import Derived.WalkSpells
import Derived.Below
import Derived.Laws.OwnMore
import Derived.Maps.AppendAt
import Derived.Deep.AppendLies
import Derived.Deep.Draws
import Derived.Lib.Hide
import Derived.StillTailTactics
import Derived.Laws.Rows
import Derived.Deep.QuietTactic
import Derived.BigQuiet
import Derived.Maps.OwnSet
import Derived.Maps.Views
import Derived.DeepKeys4
import Derived.WideKeyPair
set_option linter.unusedVariables false
set_option linter.unusedSimpArgs false
/- The past in plain Lean: names, a past of eight numbers, raising and merging. -/
namespace Go.Proofs.YtkjnlhidnkbelaaGreatDoor
open Go Go.RowKit

/-- A name: the client's number, and its own. -/
abbrev Nm := Int × Int
def nmOk (x : Nm) : Prop := 1 ≤ x.1 ∧ x.1 ≤ 8 ∧ 1 ≤ x.2 ∧ x.2 ≤ 1073741824
instance (x : Nm) : Decidable (nmOk x) := by unfold nmOk; infer_instance
end Go.Proofs.YtkjnlhidnkbelaaGreatDoor
/- Words for memory, over any program: a block that is known whole, a frame, a slice that reads as a list of cells. -/
namespace Go.Proofs.YtkjnlhidnkbelaaGreatDoor
open Go Go.RowKit

/-- Block g is just these cells, none frozen. -/
def Blk (w : World) (g : Nat) (t : TypeId) (cs : Array Value) : Prop := w.heap[g]? = some (.cells cs t (0, 0))

/-- Only blocks of S, and new ones, have turned. -/
structure Fr (S : Nat → Prop) (w w' : World) : Prop where
  os : w'.os = w.os
  tape : w'.tape = w.tape
  output : w'.output = w.output
  size : w.heap.size ≤ w'.heap.size
  block : ∀ k, k < w.heap.size → ¬ S k → w'.heap[k]? = w.heap[k]?

section
variable {w w' w'' : World} {g : Nat} {t : TypeId} {cs : Array Value} {S S' : Nat → Prop}

theorem Blk.lt (h : Blk w g t cs) : g < w.heap.size := by
  rcases Nat.lt_or_ge g w.heap.size with hlt | hge
  · exact hlt
  · unfold Blk at h; rw [Array.getElem?_eq_none hge] at h; cases h
theorem Blk.cell (h : Blk w g t cs) (i : Nat) : w.cell? ⟨g, i, none⟩ = cs[i]? := cell_of_row w g i cs t (0, 0) h
theorem Blk.frozen (h : Blk w g t cs) (i : Nat) : w.frozen? ⟨g, i, none⟩ = false := by
  unfold Blk at h
  simp [World.frozen?, h]
theorem Blk.new (w : World) (t : TypeId) (cs : Array Value) : Blk (w.alloc (.cells cs t)) w.heap.size t cs := heap_alloc_new w _
theorem Blk.drew (h : Blk w g t cs) : Blk w.drew g t cs := h
theorem Blk.alloc (h : Blk w g t cs) (o : Obj) : Blk (w.alloc o) g t cs := (Below.heap_alloc w o g h.lt).trans h
theorem Blk.set_ (h : Blk w g t cs) (i : Nat) (u : Value) : Blk (w.setCell ⟨g, i, none⟩ u) g t (cs.setIfInBounds i u) := by
  unfold Blk at h ⊢
  simp [World.setCell, Array.getElem?_modify, h]
theorem Blk.far (h : Blk w g t cs) {p : Addr} (hp : g ≠ p.block) (u : Value) : Blk (w.setCell p u) g t cs := (Below.heap_setCell w p u g hp).trans h
theorem Blk.fr (h : Blk w g t cs) (hf : Fr S w w') (hg : ¬ S g) : Blk w' g t cs := (hf.block g h.lt hg).trans h
theorem Blk.inj {t' : TypeId} {cs' : Array Value} (h : Blk w g t cs) (h' : Blk w g t' cs') : t = t' ∧ cs = cs' := by
  unfold Blk at h h'
  rw [h] at h'
  injection h' with h'
  injection h' with h1 h2
  exact ⟨h2, h1⟩
theorem Fr.refl (S : Nat → Prop) (w : World) : Fr S w w := ⟨rfl, rfl, rfl, Nat.le_refl _, fun _ _ _ => rfl⟩
/-- Two steps: what the second one may turn, the whole may turn, or it is new. -/
theorem Fr.trans (h : Fr S w w') (k : Fr S' w' w'') (hs : ∀ b, S' b → S b ∨ w.heap.size ≤ b) : Fr S w w'' :=
  ⟨k.os.trans h.os, k.tape.trans h.tape, k.output.trans h.output, Nat.le_trans h.size k.size, fun i hi hn =>
    (k.block i (Nat.lt_of_lt_of_le hi h.size) (fun hb => (hs i hb).elim hn (fun hh => by omega))).trans (h.block i hi hn)⟩
theorem Fr.mono (h : Fr S w w') (hs : ∀ b, S b → S' b ∨ w.heap.size ≤ b) : Fr S' w w' :=
  ⟨h.os, h.tape, h.output, h.size, fun i hi hn => h.block i hi (fun hb => (hs i hb).elim hn (fun hh => by omega))⟩
theorem Fr.tr (h : Fr S w w') (k : Fr S w' w'') : Fr S w w'' := h.trans k fun _ hb => .inl hb
theorem Fr.drew (h : Fr S w w') : Fr S w w'.drew := ⟨h.os, h.tape, h.output, h.size, h.block⟩
theorem Fr.drewN (h : Fr S w w') (n : Nat) : Fr S w (w'.drewN n) := ⟨h.os, h.tape, h.output, h.size, h.block⟩
theorem Fr.alloc (h : Fr S w w') (o : Obj) : Fr S w (w'.alloc o) :=
  ⟨h.os, h.tape, h.output, Nat.le_trans h.size (by simp), fun i hi hn => (Below.heap_alloc w' o i (Nat.lt_of_lt_of_le hi h.size)).trans (h.block i hi hn)⟩
theorem Fr.setCell (h : Fr S w w') {p : Addr} (hp : S p.block ∨ w.heap.size ≤ p.block) (u : Value) : Fr S w (w'.setCell p u) :=
  ⟨h.os, h.tape, h.output, by simpa [World.setCell] using h.size, fun i hi hn => (Below.heap_setCell w' p u i (by
    rintro rfl
    rcases hp with hp | hp
    · exact hn hp
    · omega)).trans (h.block i hi hn)⟩
theorem Fr.of_below (h : Below w.heap.size w w') : Fr S w w' := ⟨h.os, h.tape, h.output, h.size, fun i hi _ => h.block i hi⟩
theorem Fr.below {B : Nat} (h : Fr S w w') (hs : ∀ k, S k → B ≤ k) (hB : B ≤ w.heap.size) : Below B w w' :=
  ⟨h.os, h.tape, h.output, h.size, fun i hi => h.block i (by omega) (fun hb => by have := hs i hb; omega)⟩
theorem Fr.cell (h : Fr S w w') {p : Addr} (hp : p.block < w.heap.size) (hn : ¬ S p.block) : w'.cell? p = w.cell? p := World.cell?_of_block (w := w) (h.block p.block hp hn)
/-- Only new blocks were made, or turned. -/
abbrev Nw (w w' : World) : Prop := Fr (fun _ => False) w w'
theorem Fr.new (h : Nw w w') (k : Fr S w' w'') (hs : ∀ b, S b → w.heap.size ≤ b) : Nw w w'' := h.trans k fun b hb => .inr (hs b hb)
theorem Nw.on (h : Nw w w') : Fr S w w' := h.mono fun _ h => h.elim

/-- The cells from A on are cs; they lie in a block of F. -/
def Sl (w : World) (F : Nat → Prop) (A : Option Addr) (cs : List Value) : Prop :=
  cs = [] ∨ ∃ b o, A = some ⟨b, o, none⟩ ∧ F b ∧ b < w.heap.size ∧ ∀ j u, cs[j]? = some u → w.cell? ⟨b, o + j, none⟩ = some u

variable {F F' : Nat → Prop} {A : Option Addr} {xs : List Value}
theorem Sl.nil (w : World) (F : Nat → Prop) (A : Option Addr) : Sl w F A [] := .inl rfl
theorem Sl.at_ (h : Sl w F A xs) (hne : xs ≠ []) : ∃ b o, A = some ⟨b, o, none⟩ ∧ F b ∧ b < w.heap.size ∧ ∀ j u, xs[j]? = some u → w.cell? ⟨b, o + j, none⟩ = some u := h.resolve_left hne
theorem Sl.fr (h : Sl w F A xs) (hf : Fr S w w') (hn : ∀ b, F b → ¬ S b) : Sl w' F A xs := by
  rcases h with h | ⟨b, o, hA, hF, hb, hc⟩
  · exact .inl h
  · exact .inr ⟨b, o, hA, hF, Nat.lt_of_lt_of_le hb hf.size, fun j u hu => (hf.cell hb (hn b hF)).trans (hc j u hu)⟩
theorem Sl.mono (h : Sl w F A xs) (hF : ∀ b, F b → b < w.heap.size → F' b) : Sl w F' A xs := by
  rcases h with h | ⟨b, o, hA, hFb, hb, hc⟩
  · exact .inl h
  · exact .inr ⟨b, o, hA, hF b hFb hb, hb, hc⟩
/-- The address of 's[l:..]'. -/
def cutA (A : Option Addr) (m l s : Nat) : Option Addr := if m = l then A else A.map (·.add (l * s))
theorem Sl.cut {n m s l k : Nat} (h : Sl w F A xs) (hl : xs.length = n * s) (hk : k ≤ n) (hm : n ≤ m) (hlk : l ≤ k) : Sl w F (cutA A m l s) ((xs.drop (l * s)).take ((k - l) * s)) := by
  by_cases he : (xs.drop (l * s)).take ((k - l) * s) = []
  · exact .inl he
  have hne : xs ≠ [] := by rintro rfl; simp at he
  have hlt : ¬ m = l := by
    intro e
    have : k - l = 0 := by omega
    rw [this] at he
    simp at he
  obtain ⟨b, o, rfl, hF, hb, hc⟩ := h.at_ hne
  refine .inr ⟨b, o + l * s, ?_, hF, hb, fun j u hu => ?_⟩
  · simp only [cutA, if_neg hlt, Option.map_some, Addr.add_lit]
  · rw [List.getElem?_take] at hu
    split at hu
    · rw [List.getElem?_drop] at hu
      rw [Nat.add_assoc]
      exact hc _ u hu
    · cases hu
theorem Sl.drop {n m s l : Nat} (h : Sl w F A xs) (hl : xs.length = n * s) (hm : n ≤ m) (hln : l ≤ n) : Sl w F (cutA A m l s) (xs.drop (l * s)) := by
  have := h.cut (k := n) hl (Nat.le_refl _) hm hln
  rwa [List.take_of_length_le (by rw [List.length_drop, hl, Nat.sub_mul]; exact Nat.le_refl _)] at this
theorem cutA_zero (A : Option Addr) (m s : Nat) : cutA A m 0 s = A := by
  unfold cutA
  split
  · rfl
  · cases A <;> simp [Addr.add]
theorem Sl.pre {k : Nat} (h : Sl w F A xs) : Sl w F A (xs.take k) := by
  rcases h with rfl | ⟨b, o, hA, hF, hb, hc⟩
  · exact .inl (by simp)
  · refine .inr ⟨b, o, hA, hF, hb, fun j u hu => hc j u ?_⟩
    rw [List.getElem?_take] at hu
    split at hu
    · exact hu
    · cases hu
/-- A slice of a block that is known whole. -/
theorem Blk.sl (h : Blk w g t cs) (o : Nat) (k : Nat) : Sl w (· = g) (some ⟨g, o, none⟩) ((cs.toList.drop o).take k) := by
  refine .inr ⟨g, o, rfl, rfl, h.lt, fun j u hu => ?_⟩
  rw [h.cell, ← Array.getElem?_toList]
  rw [List.getElem?_take] at hu
  split at hu
  · rwa [List.getElem?_drop] at hu
  · cases hu
end

/-- The block of an address. -/
def inA (A : Option Addr) (k : Nat) : Prop := ∃ a, A = some a ∧ a.block = k
theorem inA_none (k : Nat) : ¬ inA none k := by rintro ⟨a, h, _⟩; cases h
theorem inA_some (a : Addr) (k : Nat) : inA (some a) k ↔ k = a.block := by
  constructor
  · rintro ⟨_, h, rfl⟩; injection h with h; rw [h]
  · rintro rfl; exact ⟨_, rfl, rfl⟩

/-- A slice of the call's own: it begins at its block's head, nothing of the block is frozen. -/
def Own (w : World) (E : TypeId) (size : Nat) (A : Option Addr) (n cap : Nat) (cs : List Value) : Prop :=
  cs.length = n * size ∧ ((A = none ∧ n = 0 ∧ cap = 0) ∨
    ∃ g cur, A = some ⟨g, 0, none⟩ ∧ Blk w g E cur ∧ n ≤ cap ∧ cap ≤ maxLen ∧ cur.size = cap * size ∧ cur.toList.take (n * size) = cs)

section
variable {w w' : World} {E : TypeId} {size n cap : Nat} {A : Option Addr} {cs : List Value} {S F : Nat → Prop}
theorem Own.nil (w : World) (E : TypeId) (size : Nat) : Own w E size none 0 0 [] := ⟨by simp, .inl ⟨rfl, rfl, rfl⟩⟩
theorem Own.fr (h : Own w E size A n cap cs) (hf : Fr S w w') (hn : ∀ k, inA A k → ¬ S k) : Own w' E size A n cap cs := by
  refine ⟨h.1, ?_⟩
  rcases h.2 with h2 | ⟨g, cur, rfl, hb, r⟩
  · exact .inl h2
  · exact .inr ⟨g, cur, rfl, hb.fr hf (hn g ((inA_some _ _).2 rfl)), r⟩
theorem Own.sl (h : Own w E size A n cap cs) : Sl w (inA A) A cs := by
  rcases h.2 with ⟨_, rfl, _⟩ | ⟨g, cur, rfl, hb, _, _, _, rfl⟩
  · exact .inl (List.eq_nil_of_length_eq_zero (by simpa using h.1))
  · have := hb.sl 0 (n * size)
    rw [List.drop_zero] at this
    exact this.mono fun b hb' _ => (inA_some _ _).2 hb'
theorem Own.lt (h : Own w E size A n cap cs) : ∀ k, inA A k → k < w.heap.size := by
  intro k hk
  rcases h.2 with ⟨rfl, _⟩ | ⟨g, cur, rfl, hb, _⟩
  · exact (inA_none _ hk).elim
  · rw [(inA_some _ _).1 hk]; exact hb.lt
theorem Own.ne_ {g : Nat} {t : TypeId} {bs : Array Value} (h : Own w E size A n cap cs) (hb : Blk w g t bs) (hne : t ≠ E) : ¬ inA A g := by
  intro hk
  rcases h.2 with ⟨rfl, _⟩ | ⟨g', cur, rfl, hb', _⟩
  · exact inA_none _ hk
  · have := (inA_some _ _).1 hk
    subst this
    exact hne (hb.inj hb').1
theorem Own.cap_le (h : Own w E size A n cap cs) : n ≤ cap ∧ cap ≤ maxLen := by
  rcases h.2 with ⟨_, rfl, rfl⟩ | ⟨g, cur, rfl, hb, h1, h2, _⟩
  · exact ⟨Nat.le_refl _, Nat.zero_le _⟩
  · exact ⟨h1, h2⟩
theorem Own.alloc (h : Own w E size A n cap cs) (o : Obj) : Own (w.alloc o) E size A n cap cs :=
  h.fr (S := fun _ => False) ((Fr.refl _ w).alloc o) (fun _ _ h => h)
theorem Own.setCell (h : Own w E size A n cap cs) {p : Addr} (hp : ¬ inA A p.block) (u : Value) : Own (w.setCell p u) E size A n cap cs :=
  h.fr (S := (· = p.block)) ((Fr.refl (· = p.block) w).setCell (.inl rfl) u) (fun k hk (e : k = p.block) => hp (e ▸ hk))
theorem Sl.setCell {F : Nat → Prop} {xs : List Value} (h : Sl w F A xs) {p : Addr} (hp : ¬ F p.block) (u : Value) : Sl (w.setCell p u) F A xs :=
  h.fr (S := (· = p.block)) ((Fr.refl (· = p.block) w).setCell (.inl rfl) u) (fun k hk (e : k = p.block) => hp (e ▸ hk))
theorem Sl.alloc {F : Nat → Prop} {xs : List Value} (h : Sl w F A xs) (o : Obj) : Sl (w.alloc o) F A xs :=
  h.fr (S := fun _ => False) ((Fr.refl _ w).alloc o) (fun _ _ h => h)
theorem Own.new (w : World) (E : TypeId) (size n cap : Nat) (cur : Array Value) (hc : n ≤ cap) (hm : cap ≤ maxLen) (hs : cur.size = cap * size) :
    Own (w.alloc (.cells cur E)) E size (some ⟨w.heap.size, 0, none⟩) n cap (cur.toList.take (n * size)) := by
  refine ⟨?_, .inr ⟨w.heap.size, cur, rfl, Blk.new w E cur, hc, hm, hs, rfl⟩⟩
  rw [List.length_take, Array.length_toList, hs]
  exact Nat.min_eq_left (Nat.mul_le_mul_right _ hc)
theorem own_of_owns {v : Value} (h : w.ownsRow 0 E size v n cs) : ∃ A cap, v = .slice A n cap ∧ Own w E size A n cap cs := by
  rcases h.2 with ⟨rfl, rfl⟩ | ⟨g, cap, cur, rfl, _, hb, r⟩
  · exact ⟨none, 0, rfl, h.1, .inl ⟨rfl, rfl, rfl⟩⟩
  · exact ⟨some ⟨g, 0, none⟩, cap, rfl, h.1, .inr ⟨g, cur, rfl, hb, r⟩⟩

variable {P : Program}
/-- What an append leaves: it had room, or it grew. -/
def AppTo (w : World) (E : TypeId) (size : Nat) (A : Option Addr) (n cap m : Nat) (cs news : List Value) (A' : Option Addr) (cap' : Nat) (w' : World) : Prop :=
  Own w' E size A' (n + m) cap' (cs ++ news) ∧ Own w' E size A n cap cs ∧
    ((n + m ≤ cap ∧ A' = A ∧ cap' = cap ∧ Fr (inA A) w w') ∨ (cap < n + m ∧ A' = some ⟨w.heap.size, 0, none⟩ ∧ Nw w w'))

/-- 'append(s, x...)', s the call's own, x whatever reads as a list. -/
theorem run_append_two (w : World) (t ty : TypeId) (bytes : Nat) (z : Value) (ht : P.underlying t = some (.slice E))
    (hinfo : (P.info? E).map (fun i => (i.zero, i.size, i.bytes)) = some (some z, size, bytes)) (hzs : z.cells.size = size) (hsz : 0 < size)
    (hown : Own w E size A n cap cs) {A2 : Option Addr} {m c : Nat} {news : List Value} (hsl : Sl w F A2 news) (hl : news.length = m * size) (h1 : ∀ u ∈ news, u.oneCell' = true)
    (hbytes : (n + m) * bytes ≤ 140737488355328) (hmax : n + m ≤ maxLen) :
    ∃ A' cap' w', (Builtin.append_ #[t, t] ty #[.slice A n cap, .slice A2 m c]).run P w = .ok (.slice A' (n + m) cap') w' ∧ AppTo w E size A n cap m cs news A' cap' w' := by
  obtain ⟨i, hi, hz0, hz1, hz2⟩ := info_parts hinfo
  subst hz1
  subst hz2
  have hsmall : n + m ≤ 9223372036854775807 := by simp only [maxLen] at hmax; omega
  have hlen : (cs ++ news).length = (n + m) * i.size := by rw [List.length_append, hown.1, hl, Nat.add_mul]
  have hcap := hown.cap_le
  by_cases hm0 : m = 0
  · subst hm0
    have hn : news = [] := List.eq_nil_of_length_eq_zero (by simpa using hl)
    subst hn
    have hrun : (Builtin.append_ #[t, t] ty #[.slice A n cap, .slice A2 0 c]).run P w = .ok (.slice A n cap) w := by
      rcases hown.2 with ⟨rfl, rfl, rfl⟩ | ⟨g, cur, rfl, _, hnc, _⟩
      · cases A2 <;> simp [Builtin.append_, run_underlying ht, sizeOf, typeInfo, hi, Builtin.lenOf, Builtin.firstCells, loadCells, loadCellsFrom]
      · cases A2 <;> simp [Builtin.append_, run_underlying ht, sizeOf, typeInfo, hi, Builtin.lenOf, Builtin.firstCells, hnc, storeCells, loadCells, loadCellsFrom]
    exact ⟨A, cap, w, by simpa using hrun, by simpa using hown, hown, .inl ⟨by omega, rfl, rfl, Fr.refl _ _⟩⟩
  · have hne : news ≠ [] := by
      rintro rfl
      have := Nat.mul_pos (Nat.pos_of_ne_zero hm0) hsz
      simp at hl; omega
    obtain ⟨b, o, rfl, _, _, hc⟩ := hsl.at_ hne
    have hcells : ∀ j u, news[j]? = some u → w.cell? ((⟨b, o, none⟩ : Addr).add j) = some u := by
      intro j u hu
      rw [Addr.add_lit]
      exact hc j u hu
    by_cases hroom : n + m ≤ cap
    · rcases hown.2 with ⟨rfl, rfl, rfl⟩ | ⟨g, cur, rfl, hg, hnc, hcm, hcs, htake⟩
      · omega
      · have hfit : n * i.size + news.length ≤ cur.size := by rw [hl, hcs, ← Nat.add_mul]; exact Nat.mul_le_mul_right _ hroom
        have hr := run_append_room (P := P) w t ty E i ht hi g n cap cur hg _ m c news hl hcells h1 hroom hfit
        have hnew : Blk (w.setRow g (cur.toList.take (n * i.size) ++ news ++ cur.toList.drop (n * i.size + news.length)).toArray) g E (cur.toList.take (n * i.size) ++ news ++ cur.toList.drop (n * i.size + news.length)).toArray := setRow_heap w g cur _ E _ hg
        have hnl : (cur.toList.take (n * i.size)).length = n * i.size := by rw [htake]; exact hown.1
        have hsz2 : (cur.toList.take (n * i.size) ++ news ++ cur.toList.drop (n * i.size + news.length)).toArray.size = cap * i.size := by
          simp only [List.size_toArray, List.length_append, List.length_take, List.length_drop, Array.length_toList]
          omega
        refine ⟨_, _, _, hr, ⟨hlen, .inr ⟨g, _, rfl, hnew, hroom, hcm, hsz2, ?_⟩⟩, ⟨hown.1, .inr ⟨g, _, rfl, hnew, hnc, hcm, hsz2, ?_⟩⟩, .inl ⟨hroom, rfl, rfl, ?_⟩⟩
        · rw [htake, ← hlen]
          exact List.take_left
        · rw [htake, List.append_assoc]
          have := hown.1
          rw [← this]
          exact List.take_left
        · exact ⟨rfl, rfl, rfl, by simp, fun k _ hk => setRow_other w g k _ (fun e => hk ((inA_some _ _).2 e))⟩
    · have hlt : cap < n + m := by omega
      have fin : ∀ old, (Builtin.append_ #[t, t] ty #[.slice A n cap, .slice (some ⟨b, o, none⟩) m c]).run P w = .ok (.slice (some ⟨w.heap.size, 0, none⟩) (n + m) (grownCap w (n + m) old E))
            (w.drew.alloc (.cells (cs.toArray ++ news.toArray ++ Builtin.zeroCells z.cells (grownCap w (n + m) old E - (n + m))) E)) →
          ∃ A' cap' w', (Builtin.append_ #[t, t] ty #[.slice A n cap, .slice (some ⟨b, o, none⟩) m c]).run P w = .ok (.slice A' (n + m) cap') w' ∧ AppTo w E i.size A n cap m cs news A' cap' w' := by
        intro old hr
        have hge := grownCap_ge w (n + m) old E
        have hcm : grownCap w (n + m) old E ≤ maxLen := grownCap_le_maxLen w (n + m) old E hmax
        refine ⟨_, _, _, hr, ⟨hlen, .inr ⟨w.heap.size, _, rfl, heap_alloc_new w.drew _, hge, hcm, ?_, ?_⟩⟩, ?_, .inr ⟨hlt, rfl, ((Fr.refl _ w).drew).alloc _⟩⟩
        · simp only [Array.size_append, List.size_toArray, size_zeroCells, hzs, hown.1, hl, ← Nat.add_mul]
          congr 1
          omega
        · simp only [Array.toList_append, List.append_assoc]
          rw [← List.append_assoc, ← hlen]
          exact List.take_left
        · exact hown.fr (S := fun _ => False) (((Fr.refl _ w).drew).alloc _) (fun _ _ h => h)
      rcases hown.2 with ⟨rfl, rfl, rfl⟩ | ⟨g, cur, rfl, hg, hnc, hcm, hcs, htake⟩
      · have hx : cs = [] := List.eq_nil_of_length_eq_zero (by simpa using hown.1)
        subst hx
        refine fin 0 ?_
        have hr := run_append_nil (P := P) w t ty E i z ht hi hz0 _ m c news hl hcells (by omega) (by omega) (by have hb := hbytes; simp only [Nat.zero_add] at hb; omega)
        simp only [Nat.zero_add, Array.empty_append] at hr ⊢
        exact hr
      · refine fin cap ?_
        have holds : ∀ j u, cs[j]? = some u → w.cell? ((⟨g, 0, none⟩ : Addr).add j) = some u := by
          intro j u hu
          rcases hown.sl with h | ⟨b', o', h, _, _, hc'⟩
          · subst h; simp at hu
          · injection h with h
            injection h with h1 h2
            subst h1; subst h2
            rw [Addr.add_lit]
            exact hc' j u hu
        exact run_append_grow (P := P) w t ty E i z ht hi hz0 ⟨g, 0, none⟩ n cap cs hown.1 holds _ m c news hl hcells (by omega) (by omega) (growslice_fits (by omega) hbytes)

theorem run_append_sl (w : World) (t ty : TypeId) (bytes : Nat) (z : Value) (ht : P.underlying t = some (.slice E))
    (hinfo : (P.info? E).map (fun i => (i.zero, i.size, i.bytes)) = some (some z, size, bytes)) (hzs : z.cells.size = size) (hsz : 0 < size)
    (hown : Own w E size A n cap cs) {A2 : Option Addr} {m c : Nat} {news : List Value} (hsl : Sl w F A2 news) (hl : news.length = m * size) (h1 : ∀ u ∈ news, u.oneCell' = true)
    (hbytes : (n + m) * bytes ≤ 140737488355328) (hmax : n + m ≤ maxLen) :
    ∃ A' cap' w', (Builtin.append_ #[t, t] ty #[.slice A n cap, .slice A2 m c]).run P w = .ok (.slice A' (n + m) cap') w' ∧ Own w' E size A' (n + m) cap' (cs ++ news) ∧ Fr (inA A) w w' ∧
      (∀ k, inA A' k → inA A k ∨ k = w.heap.size) := by
  obtain ⟨A', cap', w', hrun, h2, _, h3⟩ := run_append_two (P := P) w t ty bytes z ht hinfo hzs hsz hown hsl hl h1 hbytes hmax (c := c)
  refine ⟨A', cap', w', hrun, h2, ?_⟩
  rcases h3 with ⟨_, rfl, rfl, hf⟩ | ⟨_, rfl, hf⟩
  · exact ⟨hf, fun k hk => .inl hk⟩
  · exact ⟨Nw.on hf, fun k hk => .inr ((inA_some _ _).1 hk)⟩

/-- The walk over such an append. -/
theorem wl_append {w : World} {ops : Array Oper} {rest : List Oper} {o : Oper} {a : Act} {Q : Exit → Act → World → Prop} (hgd : o.guard = none) (s x : Operand) (t : TypeId)
    (ho : o.op = .call { callee := .builtin .append, args := #[s, x], argTypes := #[t, t] }) (bytes : Nat) (z : Value) (ht : P.underlying t = some (.slice E))
    (hinfo : (P.info? E).map (fun i => (i.zero, i.size, i.bytes)) = some (some z, size, bytes)) (hzs : z.cells.size = size) (hsz : 0 < size)
    (hs : a.eval s = .slice A n cap) (hown : Own w E size A n cap cs) {A2 : Option Addr} {m c : Nat} {news : List Value} (hx : a.eval x = .slice A2 m c) (hsl : Sl w F A2 news) (hl : news.length = m * size) (h1 : ∀ u ∈ news, u.oneCell' = true)
    (hbytes : (n + m) * bytes ≤ 140737488355328) (hmax : n + m ≤ maxLen)
    (h : ∀ A' cap' w', Own w' E size A' (n + m) cap' (cs ++ news) → Fr (inA A) w w' → (∀ k, inA A' k → inA A k ∨ k = w.heap.size) → wpList P ops Q rest (a.put o.dst (.slice A' (n + m) cap')) w') :
    wpList P ops Q (o :: rest) a w := by
  refine wpList_plain hgd fun K hK' => ?_
  obtain ⟨A', cap', w', hrun, h2, h3, h4⟩ := run_append_sl (P := P) w t o.type bytes z ht hinfo hzs hsz hown hsl hl h1 hbytes hmax
  unfold Oper.wp execOp
  simp only [ho, resolve, invoke, builtin, Sem.run_bind, Sem.run_pure, Result.andThen_ok, List.map_toArray, List.map_cons, List.map_nil, hs, hx]
  rw [hrun]
  exact hK' _ _ (h A' cap' w' h2 h3 h4)

/-- The same, and all that is known. -/
theorem wl_append2 {w : World} {ops : Array Oper} {rest : List Oper} {o : Oper} {a : Act} {Q : Exit → Act → World → Prop} (hgd : o.guard = none) (s x : Operand) (t : TypeId)
    (ho : o.op = .call { callee := .builtin .append, args := #[s, x], argTypes := #[t, t] }) (bytes : Nat) (z : Value) (ht : P.underlying t = some (.slice E))
    (hinfo : (P.info? E).map (fun i => (i.zero, i.size, i.bytes)) = some (some z, size, bytes)) (hzs : z.cells.size = size) (hsz : 0 < size)
    (hs : a.eval s = .slice A n cap) (hown : Own w E size A n cap cs) {A2 : Option Addr} {m c : Nat} {news : List Value} (hx : a.eval x = .slice A2 m c) (hsl : Sl w F A2 news) (hl : news.length = m * size) (h1 : ∀ u ∈ news, u.oneCell' = true)
    (hbytes : (n + m) * bytes ≤ 140737488355328) (hmax : n + m ≤ maxLen)
    (h : ∀ A' cap' w', AppTo w E size A n cap m cs news A' cap' w' → wpList P ops Q rest (a.put o.dst (.slice A' (n + m) cap')) w') :
    wpList P ops Q (o :: rest) a w := by
  refine wpList_plain hgd fun K hK' => ?_
  obtain ⟨A', cap', w', hrun, h2⟩ := run_append_two (P := P) w t o.type bytes z ht hinfo hzs hsz hown hsl hl h1 hbytes hmax (c := c)
  unfold Oper.wp execOp
  simp only [ho, resolve, invoke, builtin, Sem.run_bind, Sem.run_pure, Result.andThen_ok, List.map_toArray, List.map_cons, List.map_nil, hs, hx]
  rw [hrun]
  exact hK' _ _ (h A' cap' w' h2)
end

section
variable {P : Program} {w : World} {E : TypeId} {size : Nat}
/-- 'make([]T, 0, n)'. -/
theorem wl_make0 {ops : Array Oper} {rest : List Oper} {o : Oper} {a : Act} {Q : Exit → Act → World → Prop} (hgd : o.guard = none) (l c : Operand) (t : TypeId) (hop : o.op = Op.makeSlice t l c) (bytes : Nat) (z : Value)
    (ht : P.underlying t = some (.slice E)) (hinfo : (P.info? E).map (fun i => (i.zero, i.size, i.bytes)) = some (some z, size, bytes)) (kl kc : IntKind) (C : Int) (n : Nat) (hl : a.eval l = .int kl 0) (hc : a.eval c = .int kc C) (hC : C = (n : Int))
    (hb : bytes * n ≤ 281474976710656) (hm : n ≤ maxLen)
    (h : ∀ w', Own w' E size (some ⟨w.heap.size, 0, none⟩) 0 n [] → Nw w w' → wpList P ops Q rest (a.put o.dst (.slice (some ⟨w.heap.size, 0, none⟩) 0 n)) w') : wpList P ops Q (o :: rest) a w := by
  obtain ⟨i, hi, hz0, hz1, hz2⟩ := info_parts hinfo
  subst hz2
  refine wpList_make_own w hgd l c t hop 0 E i z size ht hi hz0 hz1 kl kc C n hl hc hC hb hm (Nat.zero_le _) fun w' r1 r2 => ?_
  obtain ⟨A, cap, he, ho⟩ := own_of_owns r1
  injection he with he1 he2 he3
  subst he1; subst he3
  exact h w' ho ⟨r2.os, r2.tape, r2.output, r2.size, fun k hk _ => r2.block k hk (by simp)⟩
/-- 'make([]T, n)'. -/
theorem wl_make {ops : Array Oper} {rest : List Oper} {o : Oper} {a : Act} {Q : Exit → Act → World → Prop} (hgd : o.guard = none) (l c : Operand) (t : TypeId) (hop : o.op = Op.makeSlice t l c) (bytes : Nat) (z : Value)
    (ht : P.underlying t = some (.slice E)) (hinfo : (P.info? E).map (fun i => (i.zero, i.size, i.bytes)) = some (some z, 1, bytes)) (hz1c : z.cells = #[z]) (kl kc : IntKind) (C1 C2 : Int) (n : Nat) (hl : a.eval l = .int kl C1) (hc : a.eval c = .int kc C2) (hC1 : C1 = (n : Int)) (hC2 : C2 = (n : Int))
    (hb : bytes * n ≤ 281474976710656) (hm : n ≤ maxLen)
    (h : ∀ w', Own w' E 1 (some ⟨w.heap.size, 0, none⟩) n n (List.replicate n z) → Nw w w' → wpList P ops Q rest (a.put o.dst (.slice (some ⟨w.heap.size, 0, none⟩) n n)) w') : wpList P ops Q (o :: rest) a w := by
  obtain ⟨i, hi, hz0, hz1, hz2⟩ := info_parts hinfo
  subst hz2
  refine wpList_make_full w hgd l c t hop 0 E i z 1 ht hi hz0 hz1 kl kc C1 C2 n hl hc hC1 hC2 hb hm (Nat.zero_le _) fun w' r1 r2 => ?_
  obtain ⟨A, cap, he, ho⟩ := own_of_owns r1
  injection he with he1 he2 he3
  subst he1; subst he3
  rw [hz1c, Nat.mul_one, toList_madeCells_one] at ho
  exact h w' ho ⟨r2.os, r2.tape, r2.output, r2.size, fun k hk _ => r2.block k hk (by simp)⟩
end

section
variable {w : World} {E : TypeId} {size n cap : Nat} {g : Nat} {cs : List Value}
theorem Own.blk (h : Own w E size (some ⟨g, 0, none⟩) n cap cs) : ∃ cur, Blk w g E cur ∧ n ≤ cap ∧ cap ≤ maxLen ∧ cur.size = cap * size ∧ cur.toList.take (n * size) = cs := by
  rcases h.2 with ⟨h, _⟩ | ⟨g', cur, h, r⟩
  · cases h
  · injection h with h; injection h with h; subst h; exact ⟨cur, r⟩
theorem Own.cellAt (h : Own w E size (some ⟨g, 0, none⟩) n cap cs) {k : Nat} (hk : k < n * size) : w.cell? ⟨g, k, none⟩ = cs[k]? := by
  obtain ⟨cur, hb, _, _, _, rfl⟩ := h.blk
  rw [hb.cell, List.getElem?_take, if_pos hk, Array.getElem?_toList]
theorem Own.frozenAt (h : Own w E size (some ⟨g, 0, none⟩) n cap cs) (k : Nat) : w.frozen? ⟨g, k, none⟩ = false := by
  obtain ⟨cur, hb, _⟩ := h.blk
  exact hb.frozen k
theorem Own.store (h : Own w E size (some ⟨g, 0, none⟩) n cap cs) (k : Nat) (u : Value) : Own (w.setCell ⟨g, k, none⟩ u) E size (some ⟨g, 0, none⟩) n cap (cs.set k u) := by
  obtain ⟨cur, hb, h1, h2, h3, rfl⟩ := h.blk
  refine ⟨by simpa using h.1, .inr ⟨g, _, rfl, hb.set_ k u, h1, h2, by simpa using h3, ?_⟩⟩
  rw [Array.toList_setIfInBounds, List.take_set]
theorem Own.pre {k : Nat} {A : Option Addr} (h : Own w E size A n cap cs) (hk : k ≤ n) (hA : A ≠ none) : Own w E size A k cap (cs.take (k * size)) := by
  rcases h.2 with ⟨rfl, _⟩ | ⟨g', cur, rfl, hb, h1, h2, h3, h4⟩
  · exact (hA rfl).elim
  · refine ⟨?_, .inr ⟨g', cur, rfl, hb, by omega, h2, h3, ?_⟩⟩
    · rw [List.length_take, h.1]; exact Nat.min_eq_left (Nat.mul_le_mul_right _ hk)
    · rw [← h4, List.take_take]; congr 1; exact (Nat.min_eq_left (Nat.mul_le_mul_right _ hk)).symm
end

/- Slicing as the walk is to write it: the address behind a name, no 'if' to part on. Laid into the context ahead of a walk. -/
section
variable {P : Program} (t : TypeId) (ht : P.underlying t = some (.slice (P.elem t))) (s : Nat) (hz : ∀ w, (sizeOf (P.elem t)).run P w = .ok s w) (a : Option Addr) (len cap : Nat)
include ht hz
theorem slice_lh (l h : Nat) (h1 : l ≤ h) (h2 : h ≤ cap) (w : World) :
    (Instr.slice t (.slice a len cap) (some (.int .i64 (l : Int))) (some (.int .i64 (h : Int))) none).run P w = .ok (.slice (cutA a cap l s) (h - l) (cap - l)) w := by
  rw [run_slice_lh w t a len cap ht .i64 .i64 l h (by omega) (by omega) (by omega), hz]; rfl
theorem slice_h (h : Nat) (h2 : h ≤ cap) (w : World) :
    (Instr.slice t (.slice a len cap) none (some (.int .i64 (h : Int))) none).run P w = .ok (.slice a h cap) w := by
  rw [run_slice_h w t a len cap ht .i64 h (by omega) (by omega), hz]
  have e : (if cap = 0 then a else a.map (·.add (0 * s))) = a := cutA_zero a cap s
  simp only [Result.andThen, sliced, e, Int.toNat_natCast, Nat.sub_zero]
theorem slice_l (l : Nat) (h1 : l ≤ len) (w : World) :
    (Instr.slice t (.slice a len cap) (some (.int .i64 (l : Int))) none none).run P w = .ok (.slice (cutA a cap l s) (len - l) (cap - l)) w := by
  rw [run_slice_l w t a len cap ht .i64 l (by omega) (by omega), hz]; rfl
theorem slice_hm (h m : Nat) (h1 : h ≤ m) (h2 : m ≤ cap) (w : World) :
    (Instr.slice t (.slice a len cap) none (some (.int .i64 (h : Int))) (some (.int .i64 (m : Int)))).run P w = .ok (.slice a h m) w := by
  rw [run_slice_hm w t a len cap ht .i64 .i64 h m (by omega) (by omega) (by omega), hz]
  have e : (if m = 0 then a else a.map (·.add (0 * s))) = a := cutA_zero a m s
  simp only [Result.andThen, sliced, e, Int.toNat_natCast, Nat.sub_zero]
end

/-- An integer as a value. -/
abbrev I64 (n : Int) : Value := .int .i64 n

section
variable {w w' : World} {F F' S : Nat → Prop} {A : Option Addr} {α : Type}
theorem Sl.get {f : α → Value} {l : List α} (h : Sl w F A (l.map f)) {k : Nat} (hk : k < l.length) : ∃ b o, A = some ⟨b, o, none⟩ ∧ F b ∧ w.cell? ⟨b, o + k, none⟩ = some (f l[k]) := by
  obtain ⟨b, o, hA, hF, _, hc⟩ := h.at_ (by intro e; have := congrArg List.length e; simp at this; simp [this] at hk)
  exact ⟨b, o, hA, hF, hc k _ (by simp [hk])⟩
theorem foldl_take_succ {β : Type} (f : β → α → β) (l : List α) (k : Nat) (h : k < l.length) (s : β) : (l.take (k + 1)).foldl f s = f ((l.take k).foldl f s) l[k] := by
  rw [List.take_succ_eq_append_getElem h, List.foldl_append]
  rfl

/-- What lies in F2 is there, and is not of F. -/
def Apart (w : World) (F2 F : Nat → Prop) : Prop := ∀ k, F2 k → k < w.heap.size ∧ ¬ F k
theorem Apart.no {F2 : Nat → Prop} (h : Apart w F2 F) : ∀ k, F2 k → ¬ F k := fun k hk => (h k hk).2
theorem Apart.step {F2 : Nat → Prop} (h : Apart w F2 F) (hs : w.heap.size ≤ w'.heap.size) (hn : ∀ k, F' k → F k ∨ w.heap.size ≤ k) : Apart w' F2 F' := fun k hk =>
  ⟨Nat.lt_of_lt_of_le (h k hk).1 hs, fun hk' => (hn k hk').elim (h k hk).2 (fun hh => by have := (h k hk).1; omega)⟩

/-- A value that is a slice of bytes. -/
def BytesV (w : World) (F : Nat → Prop) (v : Value) (bs : List UInt8) : Prop :=
  ∃ A c, v = .slice A bs.length c ∧ bs.length ≤ c ∧ c ≤ maxLen ∧ Sl w F A (bs.map fun b => .int .u8 (b.toNat : Int))
theorem BytesV.fr {v : Value} {bs : List UInt8} (h : BytesV w F v bs) (hf : Fr S w w') (hn : ∀ b, F b → ¬ S b) : BytesV w' F v bs := by
  obtain ⟨A, c, e, h1, h2, h3⟩ := h
  exact ⟨A, c, e, h1, h2, h3.fr hf hn⟩
/-- Values that are slices of bytes, one by one. -/
def RowsV (w : World) (F : Nat → Prop) (vs : List Value) (rs : List (List UInt8)) : Prop :=
  vs.length = rs.length ∧ ∀ k (h : k < rs.length), ∃ v, vs[k]? = some v ∧ BytesV w F v rs[k]
theorem RowsV.fr {vs : List Value} {rs : List (List UInt8)} (h : RowsV w F vs rs) (hf : Fr S w w') (hn : ∀ b, F b → ¬ S b) : RowsV w' F vs rs :=
  ⟨h.1, fun k hk => by obtain ⟨v, e, hv⟩ := h.2 k hk; exact ⟨v, e, hv.fr hf hn⟩⟩
end

end Go.Proofs.YtkjnlhidnkbelaaGreatDoor
/- The wire in plain Lean: numbers as bytes, and bytes read as numbers, flags, rows. No program in sight. -/
namespace Go.Proofs.YtkjnlhidnkbelaaGreatDoor
open Go Go.RowKit

/-- The greatest number: 2^62 - 1. -/
def topN : Nat := 4611686018427387903

/-- The bytes of a number, by fuel. -/
def encF : Nat → Nat → List UInt8
  | 0, _ => []
  | f + 1, n => if n < 128 then [UInt8.ofNat n] else UInt8.ofNat (n % 128 + 128) :: encF f (n / 128)
def enc (n : Nat) : List UInt8 := encF 9 n

theorem encF_small (f n : Nat) (h : n < 128) : encF (f + 1) n = [UInt8.ofNat n] := by simp [encF, h]
theorem encF_big (f n : Nat) (h : 128 ≤ n) : encF (f + 1) n = UInt8.ofNat (n % 128 + 128) :: encF f (n / 128) := by
  simp [encF, Nat.not_lt.2 h]
/-- More fuel than is wanted turns nothing. -/
theorem encF_more : ∀ (f g n : Nat), 0 < f → n < 128 ^ f → encF (f + g) n = encF f n := by
  intro f
  induction f with
  | zero => intro g n h; omega
  | succ f ih =>
    intro g n _ hn
    have e : f + 1 + g = (f + g) + 1 := by omega
    rw [e]
    by_cases h : n < 128
    · rw [encF_small _ _ h, encF_small _ _ h]
    · rw [encF_big _ _ (by omega), encF_big _ _ (by omega)]
      have hf : 0 < f := by
        rcases Nat.eq_zero_or_pos f with h0 | h0
        · subst h0; simp at hn; omega
        · exact h0
      rw [ih g (n / 128) hf (by rw [Nat.div_lt_iff_lt_mul (by omega)]; rw [Nat.pow_succ] at hn; exact hn)]
theorem encF_len : ∀ (f n : Nat), (encF f n).length ≤ f := by
  intro f
  induction f with
  | zero => intro n; simp [encF]
  | succ f ih =>
    intro n
    by_cases h : n < 128
    · rw [encF_small _ _ h]; simp
    · rw [encF_big _ _ (by omega)]; have := ih (n / 128); simp; omega
theorem enc_big (n : Nat) (h : 128 ≤ n) (hn : n ≤ topN) : enc n = UInt8.ofNat (n % 128 + 128) :: enc (n / 128) := by
  unfold enc
  rw [encF_big _ _ h, encF_more 8 1 (n / 128) (by omega) (by unfold topN at hn; omega)]
theorem enc_small (n : Nat) (h : n < 128) : enc n = [UInt8.ofNat n] := encF_small 8 n h
theorem enc_len (n : Nat) : (enc n).length ≤ 9 := encF_len 9 n
theorem enc_ne (n : Nat) : enc n ≠ [] := by
  unfold enc
  by_cases h : n < 128
  · rw [encF_small _ _ h]; simp
  · rw [encF_big _ _ (by omega)]; simp

/-- The number that bytes begin with, and what is behind it; the flag: is it the first byte? -/
def decF : Nat → Bool → List UInt8 → Option (Nat × List UInt8)
  | 0, _, _ => none
  | _ + 1, _, [] => none
  | f + 1, first, b :: r =>
    if b.toNat < 128 then (if first = false ∧ b.toNat = 0 then none else some (b.toNat, r))
    else match decF f false r with
      | none => none
      | some (n, s) => some (b.toNat - 128 + 128 * n, s)

/-- A reader: what is left, or none where it has failed. -/
abbrev Rd := Option (List UInt8)
def decN (bs : List UInt8) : Option (Nat × List UInt8) :=
  match decF 9 true bs with
  | none => none
  | some (n, r) => if topN < n then none else some (n, r)
def rdNum (most : Int) : Rd → Int × Rd
  | none => (0, none)
  | some bs => match decN bs with
    | none => (0, none)
    | some (n, r) => if most < (n : Int) then (0, none) else ((n : Int), some r)
theorem rdNum_none {bs : List UInt8} (most : Int) (h : decN bs = none) : rdNum most (some bs) = (0, none) := by simp [rdNum, h]
theorem rdNum_big {bs r : List UInt8} {n : Nat} (most : Int) (h : decN bs = some (n, r)) (hm : most < (n : Int)) : rdNum most (some bs) = (0, none) := by simp [rdNum, h, hm]
theorem rdNum_ok {bs r : List UInt8} {n : Nat} (most : Int) (h : decN bs = some (n, r)) (hm : ¬ most < (n : Int)) : rdNum most (some bs) = ((n : Int), some r) := by simp [rdNum, h, hm]
def rdFlag : Rd → Bool × Rd
  | none => (false, none)
  | some [] => (false, none)
  | some (b :: r) => if 1 < b.toNat then (false, none) else (((b.toNat : Int) == 1), some r)
def rdRow (most : Int) (s : Rd) : List UInt8 × Rd :=
  match rdNum most s with
  | (_, none) => ([], none)
  | (n, some r) => if r.length < n.toNat then ([], none) else (r.take n.toNat, some (r.drop n.toNat))
theorem rdRow_none {s : Rd} {most n : Int} (h : rdNum most s = (n, none)) : rdRow most s = ([], none) := by simp [rdRow, h]
theorem rdRow_some {s : Rd} {most : Int} {m : Nat} {r : List UInt8} (h : rdNum most s = ((m : Int), some r)) : rdRow most s = if r.length < m then ([], none) else (r.take m, some (r.drop m)) := by simp [rdRow, h]
def rdLeft : Rd → Nat
  | none => 0
  | some bs => bs.length
def rdEnd : Rd → Int
  | none => 4
  | some bs => if bs = [] then 0 else 4

/-- A writer: is all right; the bytes. -/
structure Wr where
  ok : Bool
  bs : List UInt8
def wrNum (n : Int) (s : Wr) : Wr := if n < 0 ∨ (topN : Int) < n then { s with ok := false } else { s with bs := s.bs ++ enc n.toNat }
def wrNums (l : List Int) (s : Wr) : Wr := l.foldl (fun s n => wrNum n s) s
def wrFlag (b : Bool) (s : Wr) : Wr := { s with bs := s.bs ++ [if b then 1 else 0] }
def wrFlags (l : List Bool) (s : Wr) : Wr := l.foldl (fun s n => wrFlag n s) s
def wrRow (b : List UInt8) (s : Wr) : Wr := { s with bs := s.bs ++ (enc b.length ++ b) }
def wrRows (l : List (List UInt8)) (s : Wr) : Wr := l.foldl (fun s n => wrRow n s) s

theorem wrNums_succ (l : List Int) (k : Nat) (h : k < l.length) (s : Wr) : wrNums (l.take (k + 1)) s = wrNum l[k] (wrNums (l.take k) s) := foldl_take_succ _ l k h s
theorem wrFlags_succ (l : List Bool) (k : Nat) (h : k < l.length) (s : Wr) : wrFlags (l.take (k + 1)) s = wrFlag l[k] (wrFlags (l.take k) s) := foldl_take_succ _ l k h s
theorem wrRows_succ (l : List (List UInt8)) (k : Nat) (h : k < l.length) (s : Wr) : wrRows (l.take (k + 1)) s = wrRow l[k] (wrRows (l.take k) s) := foldl_take_succ _ l k h s
theorem wrNums_len (l : List Int) (s : Wr) : (wrNums l s).bs.length ≤ s.bs.length + 9 * l.length := by
  unfold wrNums
  induction l generalizing s with
  | nil => simp
  | cons n l ih =>
    have h := ih (wrNum n s)
    have h1 : (wrNum n s).bs.length ≤ s.bs.length + 9 := by
      unfold wrNum; split
      · simp
      · have := enc_len n.toNat; simp; omega
    simp only [List.foldl_cons, List.length_cons]; omega
theorem wrFlags_len (l : List Bool) (s : Wr) : (wrFlags l s).bs.length = s.bs.length + l.length := by
  unfold wrFlags
  induction l generalizing s with
  | nil => simp
  | cons n l ih =>
    have h := ih (wrFlag n s)
    simp only [List.foldl_cons, List.length_cons]
    rw [h]; simp [wrFlag]; omega
/-- How many bytes rows have. -/
def rowsLen (l : List (List UInt8)) : Nat := (l.map List.length).sum
theorem wrRows_len (l : List (List UInt8)) (s : Wr) : (wrRows l s).bs.length ≤ s.bs.length + 9 * l.length + rowsLen l := by
  unfold wrRows rowsLen
  induction l generalizing s with
  | nil => simp
  | cons n l ih =>
    have h := ih (wrRow n s)
    have h1 : (wrRow n s).bs.length ≤ s.bs.length + 9 + n.length := by
      have := enc_len n.length; simp [wrRow]; omega
    simp only [List.foldl_cons, List.length_cons, List.map_cons, List.sum_cons]; omega
theorem rowsLen_get (l : List (List UInt8)) (k : Nat) (h : k < l.length) : l[k].length + rowsLen (l.take k) ≤ rowsLen l := by
  unfold rowsLen
  induction l generalizing k with
  | nil => simp at h
  | cons a l ih =>
    cases k with
    | zero => simp
    | succ k => have := ih k (by simpa using h); simp only [List.take_succ_cons, List.map_cons, List.sum_cons, List.getElem_cons_succ]; omega

/-- A byte as a value. -/
abbrev B8 (b : UInt8) : Value := .int .u8 (b.toNat : Int)
theorem B8_oneCell (bs : List UInt8) : ∀ u ∈ bs.map B8, u.oneCell' = true := by
  intro u hu
  obtain ⟨_, _, rfl⟩ := List.mem_map.1 hu
  rfl

theorem orByte (k : Nat) : bits BinOp.or IntKind.u8 ((k : Int) % 256) 128 = ((UInt8.ofNat (k % 128 + 128)).toNat : Int) := by
  have h : ∀ m : Fin 256, bits BinOp.or IntKind.u8 ((m.val : Nat) : Int) 128 = (((m.val % 128 + 128 : Nat)) : Int) := by decide +kernel
  have e : (UInt8.ofNat (k % 128 + 128)).toNat = k % 128 + 128 := by rw [UInt8.toNat_ofNat']; omega
  have h1 := h ⟨k % 256, Nat.mod_lt _ (by omega)⟩
  simp only at h1
  have e2 : ((k : Int) % 256) = ((k % 256 : Nat) : Int) := by omega
  rw [e, e2, h1]
  have : k % 256 % 128 = k % 128 := by omega
  rw [this]
theorem lowByte (k : Nat) (h : k < 128) : ((k : Int) % 256) = ((UInt8.ofNat k).toNat : Int) := by
  have e : (UInt8.ofNat k).toNat = k := by rw [UInt8.toNat_ofNat']; omega
  rw [e]; omega

theorem andByte (b : UInt8) : bits BinOp.and IntKind.u8 (b.toNat : Int) 127 = ((b.toNat % 128 : Nat) : Int) := by
  have h : ∀ m : Fin 256, bits BinOp.and IntKind.u8 ((m.val : Nat) : Int) 127 = ((m.val % 128 : Nat) : Int) := by decide +kernel
  have h1 := h ⟨b.toNat, b.toNat_lt⟩
  simpa using h1
theorem ofInt_i64_nat (a : Nat) (ha : a < 9223372036854775808) : (BitVec.ofInt 64 (a : Int)).toNat = a := by
  rw [BitVec.ofInt_natCast, BitVec.toNat_ofNat]; exact Nat.mod_eq_of_lt (by omega)
theorem orAdd (k acc d : Nat) (hk : k < 9) (ha : acc < 128 ^ k) (hd : d < 128) :
    bits BinOp.or IntKind.i64 (acc : Int) ((d : Int) * 2 ^ (7 * k)) = ((acc + 128 ^ k * d : Nat) : Int) := by
  have e128 : (128 : Nat) ^ k = 2 ^ (7 * k) := by rw [show (128 : Nat) = 2 ^ 7 from rfl, ← Nat.pow_mul]
  have hb : (128 : Nat) ^ k ≤ 128 ^ 8 := Nat.pow_le_pow_right (by omega) (by omega)
  have hb2 : 128 ^ k * d ≤ 128 ^ k * 127 := Nat.mul_le_mul_left _ (by omega)
  have hor : acc ||| (2 ^ (7 * k) * d) = acc + 2 ^ (7 * k) * d := by
    rw [Nat.or_comm, Nat.add_comm, Nat.two_pow_add_eq_or_of_lt (by rw [← e128]; exact ha)]
  have ed : ((d : Int) * 2 ^ (7 * k)) = ((2 ^ (7 * k) * d : Nat) : Int) := by
    rw [Int.natCast_mul, Int.natCast_pow, Int.mul_comm]; rfl
  rw [ed]
  have h8 : (128 : Nat) ^ 8 = 72057594037927936 := by decide
  show IntKind.i64.wrap ((BitVec.ofInt 64 (acc : Int) ||| BitVec.ofInt 64 ((2 ^ (7 * k) * d : Nat) : Int)).toNat : Int) = _
  rw [BitVec.toNat_or, ofInt_i64_nat acc (by omega), ofInt_i64_nat _ (by rw [← e128]; omega), hor, IntKind.wrap_i64, ← e128]
  omega
theorem numByte (k acc : Nat) (b : UInt8) (hk : k < 9) (ha : acc < 128 ^ k) :
    bits BinOp.or IntKind.i64 (acc : Int) (wrap64 (wrap64 (bits BinOp.and IntKind.u8 (b.toNat : Int) 127) * 2 ^ (7 * k))) = ((acc + 128 ^ k * (b.toNat % 128) : Nat) : Int) := by
  have e128 : (128 : Nat) ^ k = 2 ^ (7 * k) := by rw [show (128 : Nat) = 2 ^ 7 from rfl, ← Nat.pow_mul]
  have hb : (128 : Nat) ^ k ≤ 128 ^ 8 := Nat.pow_le_pow_right (by omega) (by omega)
  have h8 : (128 : Nat) ^ 8 = 72057594037927936 := by decide
  have hb2 : 128 ^ k * (b.toNat % 128) ≤ 128 ^ k * 127 := Nat.mul_le_mul_left _ (by omega)
  have ed : (((b.toNat % 128 : Nat) : Int) * 2 ^ (7 * k)) = ((2 ^ (7 * k) * (b.toNat % 128) : Nat) : Int) := by
    rw [Int.natCast_mul, Int.natCast_pow, Int.mul_comm]; rfl
  rw [andByte, show wrap64 ((b.toNat % 128 : Nat) : Int) = ((b.toNat % 128 : Nat) : Int) from IntWalk.wrap64_in _ (by omega), IntWalk.wrap64_in _ (by rw [ed, ← e128]; omega)]
  exact orAdd k acc _ hk ha (by omega)

/-- Reading on behind some bytes of a number. -/
theorem decF_step (f : Nat) (first : Bool) (b : UInt8) (r : List UInt8) (h : 128 ≤ b.toNat) :
    decF (f + 1) first (b :: r) = (match decF f false r with | none => none | some (n, s) => some (b.toNat - 128 + 128 * n, s)) := by
  simp [decF, Nat.not_lt.2 h]
theorem decF_last (f : Nat) (first : Bool) (b : UInt8) (r : List UInt8) (h : b.toNat < 128) :
    decF (f + 1) first (b :: r) = if first = false ∧ b.toNat = 0 then none else some (b.toNat, r) := by
  simp [decF, h]
theorem decF_nil (f : Nat) (first : Bool) : decF f first [] = none := by cases f <;> rfl
theorem decF_bound : ∀ (f : Nat) (first : Bool) (bs : List UInt8) (n : Nat) (r : List UInt8), decF f first bs = some (n, r) → n < 128 ^ f := by
  intro f
  induction f with
  | zero => intro _ _ _ _ h; simp [decF] at h
  | succ f ih =>
    intro first bs n r h
    cases bs with
    | nil => simp [decF] at h
    | cons b s =>
      by_cases hb : b.toNat < 128
      · rw [decF_last _ _ _ _ hb] at h
        split at h
        · cases h
        · injection h with h; injection h with h1 h2
          have : 0 < 128 ^ f := Nat.pow_pos (by omega)
          rw [Nat.pow_succ]; omega
      · rw [decF_step _ _ _ _ (by omega)] at h
        cases hd : decF f false s with
        | none => rw [hd] at h; cases h
        | some q =>
          obtain ⟨m, t⟩ := q
          rw [hd] at h
          injection h with h; injection h with h1 h2
          have hm := ih false s m t hd
          have hb' : b.toNat < 256 := b.toNat_lt
          rw [Nat.pow_succ]; omega

/-- A number, k bytes of which were read, which were acc. -/
structure NumAt (bs : List UInt8) (k acc : Nat) (rest : List UInt8) : Prop where
  le : k ≤ 9
  lt : acc < 128 ^ k
  is : decF 9 true bs = (match decF (9 - k) (decide (k = 0)) rest with | none => none | some (m, r) => some (acc + 128 ^ k * m, r))
theorem NumAt.start (bs : List UInt8) : NumAt bs 0 0 bs := by
  refine ⟨by omega, by simp, ?_⟩
  simp only [Nat.sub_zero, decide_true, Nat.pow_zero, Nat.one_mul, Nat.zero_add]
  cases decF 9 true bs <;> rfl
theorem NumAt.next {bs r : List UInt8} {k acc : Nat} {b : UInt8} (h : NumAt bs k acc (b :: r)) (hk : k < 9) (hb : 128 ≤ b.toNat) : NumAt bs (k + 1) (acc + 128 ^ k * (b.toNat - 128)) r := by
  have hb' : b.toNat < 256 := b.toNat_lt
  refine ⟨hk, ?_, ?_⟩
  · have h1 := h.lt
    have : 128 ^ k * (b.toNat - 128) ≤ 128 ^ k * 127 := Nat.mul_le_mul_left _ (by omega)
    rw [Nat.pow_succ]; omega
  · rw [h.is]
    have e : 9 - k = (9 - (k + 1)) + 1 := by omega
    rw [e, decF_step _ _ _ _ hb]
    have e2 : decide (k + 1 = 0) = false := by simp
    rw [e2]
    cases decF (9 - (k + 1)) false r with
    | none => rfl
    | some q =>
      obtain ⟨m, s⟩ := q
      simp only [Option.some.injEq, Prod.mk.injEq, and_true]
      rw [Nat.pow_succ, Nat.mul_add, Nat.mul_assoc, Nat.add_assoc]
theorem NumAt.none_ {bs : List UInt8} {k acc : Nat} (h : NumAt bs k acc []) : decN bs = none := by
  unfold decN; rw [h.is, decF_nil]
theorem NumAt.far {bs r : List UInt8} {acc : Nat} (h : NumAt bs 9 acc r) : decN bs = none := by
  unfold decN; rw [h.is]; rfl
theorem NumAt.last {bs r : List UInt8} {k acc : Nat} {b : UInt8} (h : NumAt bs k acc (b :: r)) (hk : k < 9) (hb : b.toNat < 128) :
    decN bs = if 0 < k ∧ b.toNat = 0 then none else if topN < acc + 128 ^ k * b.toNat then none else some (acc + 128 ^ k * b.toNat, r) := by
  unfold decN
  rw [h.is]
  have e : 9 - k = (9 - (k + 1)) + 1 := by omega
  rw [e, decF_last _ _ _ _ hb]
  by_cases h0 : 0 < k ∧ b.toNat = 0
  · rw [if_pos (show decide (k = 0) = false ∧ b.toNat = 0 from ⟨by simp; omega, h0.2⟩), if_pos h0]
  · rw [if_neg (show ¬ (decide (k = 0) = false ∧ b.toNat = 0) from fun h => h0 ⟨by have := h.1; simp at this; omega, h.2⟩), if_neg h0]

/-- What was read is what the number is as bytes, and the rest. -/
theorem decF_enc : ∀ (f : Nat) (first : Bool) (bs : List UInt8) (n : Nat) (r : List UInt8), decF f first bs = some (n, r) → (first = true ∨ 0 < n) ∧ bs = encF f n ++ r := by
  intro f
  induction f with
  | zero => intro _ _ _ _ h; simp [decF] at h
  | succ f ih =>
    intro first bs n r h
    cases bs with
    | nil => simp [decF] at h
    | cons b s =>
      by_cases hb : b.toNat < 128
      · rw [decF_last _ _ _ _ hb] at h
        split at h
        · cases h
        · rename_i hne
          injection h with h; injection h with h1 h2
          subst h1; subst h2
          rw [encF_small _ _ hb]
          refine ⟨?_, by simp⟩
          cases first <;> simp_all <;> omega
      · rw [decF_step _ _ _ _ (by omega)] at h
        cases hd : decF f false s with
        | none => rw [hd] at h; cases h
        | some q =>
          obtain ⟨m, t⟩ := q
          rw [hd] at h
          injection h with h; injection h with h1 h2
          subst h2
          obtain ⟨hm, hs⟩ := ih false s m t hd
          have hm' : 0 < m := by simpa using hm
          have hb' : b.toNat < 256 := b.toNat_lt
          have hn : 128 ≤ n := by omega
          have e1 : n % 128 + 128 = b.toNat := by omega
          have e2 : n / 128 = m := by omega
          rw [encF_big _ _ hn, e1, e2]
          exact ⟨.inr (by omega), by simp [hs]⟩
theorem decN_enc {bs r : List UInt8} {n : Nat} (h : decN bs = some (n, r)) : n ≤ topN ∧ bs = enc n ++ r := by
  unfold decN at h
  split at h
  · cases h
  · rename_i m s hd
    split at h
    · cases h
    · rename_i ht
      injection h with h; injection h with h1 h2
      subst h1; subst h2
      exact ⟨by omega, (decF_enc 9 true bs m s hd).2⟩
theorem rdNum_cases (most : Int) (s : Rd) : rdNum most s = (0, none) ∨ ∃ (bs : List UInt8) (m : Nat) (r : List UInt8), s = some bs ∧ rdNum most s = ((m : Int), some r) ∧ m ≤ topN ∧ (m : Int) ≤ most ∧ bs = enc m ++ r := by
  cases s with
  | none => exact .inl rfl
  | some bs =>
    cases hd : decN bs with
    | none => exact .inl (rdNum_none most hd)
    | some q =>
      obtain ⟨m, r⟩ := q
      by_cases hm : most < (m : Int)
      · exact .inl (rdNum_big most hd hm)
      · obtain ⟨h1, h2⟩ := decN_enc hd
        exact .inr ⟨bs, m, r, rfl, rdNum_ok most hd hm, h1, by omega, h2⟩

/-- Right numbers as bytes, one behind the other. -/
def encAll (l : List Int) : List UInt8 := (l.map fun n => enc n.toNat).flatten
def Right (n : Int) : Prop := 0 ≤ n ∧ n ≤ (topN : Int)
theorem wrNums_right (l : List Int) (s : Wr) (h : ∀ n ∈ l, Right n) : wrNums l s = ⟨s.ok, s.bs ++ encAll l⟩ := by
  unfold wrNums
  induction l generalizing s with
  | nil => simp [encAll]
  | cons n l ih =>
    have hn := h n (by simp)
    have hs : wrNum n s = ⟨s.ok, s.bs ++ enc n.toNat⟩ := by
      unfold wrNum
      rw [if_neg (by unfold Right at hn; omega)]
    rw [List.foldl_cons, hs, ih _ (fun m hm => h m (by simp [hm]))]
    simp [encAll]

end Go.Proofs.YtkjnlhidnkbelaaGreatDoor
/- The past in plain Lean: the same past by whatever order; written and read. -/
namespace Go.Proofs.YtkjnlhidnkbelaaGreatDoor
open Go Go.RowKit

/-- So many numbers read, one behind the other. -/
def rdNums (m : Int) : Nat → Rd → List Int × Rd
  | 0, s => ([], s)
  | k + 1, s => ((rdNums m k s).1 ++ [(rdNum m (rdNums m k s).2).1], (rdNum m (rdNums m k s).2).2)
theorem encAll_le (l : List Int) : (encAll l).length ≤ 9 * l.length := by
  unfold encAll
  induction l with
  | nil => simp
  | cons n l ih =>
    have := enc_len n.toNat
    simp only [List.map_cons, List.flatten_cons, List.length_append, List.length_cons]
    omega

end Go.Proofs.YtkjnlhidnkbelaaGreatDoor
/- Rulings in plain Lean: reads, verdicts, a book of them, its bytes, and bytes read as a book. No program in sight. -/
namespace Go.Proofs.YtkjnlhidnkbelaaGreatDoor
open Go Go.RowKit

/-- A read: its key, is there one, its value. -/
abbrev Rdg := List UInt8 × Bool × List UInt8
/-- A verdict: the name, is it committed, its index, its reads. -/
abbrev Ver := Nm × Bool × Int × List Rdg
def keyCh (b : UInt8) : Bool := (decide (97 ≤ b.toNat) && decide (b.toNat ≤ 122)) || (decide (48 ≤ b.toNat) && decide (b.toNat ≤ 57))
def keyOk (s : List UInt8) : Bool := (decide (1 ≤ s.length) && decide (s.length ≤ 20)) && s.all keyCh
def rdgOk (r : Rdg) : Bool := keyOk r.1 && (decide (r.2.2.length ≤ 20) && (r.2.1 || decide (r.2.2 = [])))
def verOk (v : Ver) : Bool := decide (nmOk v.1) && (decide (1 ≤ v.2.2.1 ∧ v.2.2.1 ≤ 1073741824) && (decide (v.2.2.2.length ≤ 6) && ((v.2.1 || decide (v.2.2.2.length = 0)) && v.2.2.2.all rdgOk)))
/-- A read of bytes. -/
def rdRdg (s : Rd) : Rdg × Rd :=
  (((rdRow 20 s).1, (rdFlag (rdRow 20 s).2).1, (rdRow 20 (rdFlag (rdRow 20 s).2).2).1), (rdRow 20 (rdFlag (rdRow 20 s).2).2).2)
def rdRdgs : Nat → Rd → List Rdg × Rd
  | 0, s => ([], s)
  | k + 1, s => ((rdRdgs k s).1 ++ [(rdRdg (rdRdgs k s).2).1], (rdRdg (rdRdgs k s).2).2)
theorem rdRdgs_len (k : Nat) (s : Rd) : (rdRdgs k s).1.length = k := by
  induction k with
  | zero => rfl
  | succ k ih => simp [rdRdgs, ih]
/-- As bytes. -/
def flagB (b : Bool) : List UInt8 := [if b then 1 else 0]
def rowB (s : List UInt8) : List UInt8 := enc s.length ++ s
def rdgB (r : Rdg) : List UInt8 := rowB r.1 ++ (flagB r.2.1 ++ rowB r.2.2)
def rdgsB (l : List Rdg) : List UInt8 := (l.map rdgB).flatten
end Go.Proofs.YtkjnlhidnkbelaaGreatDoor
/- More words for memory, over any program: an aggregate loaded, a drawn region with a tail. -/
namespace Go.Proofs.YtkjnlhidnkbelaaGreatDoor
open Go Go.RowKit

/-- A drawn region whose last operations stand in one order: the world behind its name. -/
theorem wp_region_tail {P : Program} {id : Nat} {Q : Exit → Act → World → Prop} {a : Act} {w : World} {l : List Oper} (n : Nat) (hm : P.follows .mixedOrders = true) (hB : Region.lexTailB .any l.toArray n = true)
    (h : wpStill P l.toArray w.drew (fun a' => wpList P l.toArray Q (l.drop n) a' w.drew) (l.take n) a) : (Code.region id l.toArray true).wp P Q a w :=
  wp_region_still_tail n hm hB h

section
variable {P : Program}
/-- A struct's, or an array's, cells loaded at once. -/
theorem run_loadVar_cells (w : World) (g o : Nat) (ty : TypeId) (cs : List Value) (d : TypeDesc) (hc : ∀ j v, cs[j]? = some v → w.cell? ⟨g, o + j, none⟩ = some v)
    (hu : P.underlying ty = some d) (hd : (match d with | .struct _ | .array _ _ => true | _ => false) = true) (hi : (P.info? ty).map (·.size) = some cs.length) :
    (loadVar ty ⟨g, o, none⟩).run P w = .ok (.agg cs.toArray) w := by
  have hl : (loadCells ⟨g, o, none⟩ cs.length).run P w = .ok cs.toArray w :=
    run_loadCells_list (P := P) w ⟨g, o, none⟩ cs (fun j v hv => by
      rw [Addr.add_lit]
      exact hc j v hv)
  cases hq : P.info? ty with
  | none => simp [hq] at hi
  | some i =>
    have hs : i.size = cs.length := by simpa [hq] using hi
    have hagg : (isAgg ty).run P w = .ok true w := by
      unfold isAgg
      rw [Sem.run_bind, run_underlying hu w]
      cases d <;> simp_all
    simp [loadVar, Sem.run_bind, hagg, sizeOf, typeInfo, hq, hs, hl]
theorem wp_load_cells {o : Oper} {a : Act} {w : World} {K : Act → World → Prop} {Q : Exit → Act → World → Prop} (ty : TypeId) (x : Operand) (ho : o.op = .load ty x)
    (g off : Nat) (hx : a.eval x = .pointer (some ⟨g, off, none⟩)) (cs : List Value) (d : TypeDesc) (hc : ∀ j v, cs[j]? = some v → w.cell? ⟨g, off + j, none⟩ = some v)
    (hu : P.underlying ty = some d) (hd : (match d with | .struct _ | .array _ _ => true | _ => false) = true) (hi : (P.info? ty).map (·.size) = some cs.length)
    (h : K (a.put o.dst (.agg cs.toArray)) w) : o.wp P a w K Q := by
  unfold Oper.wp execOp
  simp only [ho, hx, Instr.loadAt, Instr.sureAddr, Sem.run_bind, Sem.run_pure, Result.andThen_ok, run_loadVar_cells w g off ty cs d hc hu hd hi]
  exact h
theorem wl_load_cells {ops : Array Oper} {rest : List Oper} {o : Oper} {a : Act} {w : World} {Q : Exit → Act → World → Prop} (hgd : o.guard = none) (ty : TypeId) (x : Operand) (ho : o.op = .load ty x)
    (g off : Nat) (hx : a.eval x = .pointer (some ⟨g, off, none⟩)) (cs : List Value) (d : TypeDesc) (hc : ∀ j v, cs[j]? = some v → w.cell? ⟨g, off + j, none⟩ = some v)
    (hu : P.underlying ty = some d) (hd : (match d with | .struct _ | .array _ _ => true | _ => false) = true) (hi : (P.info? ty).map (·.size) = some cs.length)
    (h : wpList P ops Q rest (a.put o.dst (.agg cs.toArray)) w) : wpList P ops Q (o :: rest) a w :=
  wpList_plain hgd fun _ hK => wp_load_cells ty x ho g off hx cs d hc hu hd hi (hK _ _ h)
end

/-- The cells of a block that was made just now. -/
theorem sl_new (w : World) (t : TypeId) (cs : List Value) (n : Nat) (hn : w.heap.size = n) : Sl (w.alloc (.cells cs.toArray t)) (· = n) (some ⟨n, 0, none⟩) cs := by
  subst hn
  have h := (Blk.new w t cs.toArray).sl 0 cs.length
  simpa using h

/-- A world in which only new blocks were made, or turned, since w. -/
def Later (w : World) : Type := { w' : World // Nw w w' }
instance (w : World) : Nonempty (Later w) := ⟨⟨w, Fr.refl _ _⟩⟩
def Later.at_ {w : World} (n : Later w) : World := n.val
theorem Later.nw {w : World} (n : Later w) : Nw w n.at_ := n.property
theorem Later.cell {w : World} {p : Addr} {v : Value} (h : w.cell? p = some v) (n : Later w) : n.at_.cell? p = some v :=
  (n.nw.cell (World.block_lt_of_cell? _ _ h) (fun h => h)).trans h
theorem Later.call {P : Program} {f : FuncId} {args : Array Value} {w : World} {n : Later w} {v : Value} (h : Calls P f args n.at_ fun e w' => e = .returned v ∧ Nw n.at_ w') :
    Calls P f args n.at_ fun e w'' => e = .returned v ∧ ∃ m : Later w, w'' = m.at_ :=
  h.mono fun _ w' ⟨he, hq⟩ => ⟨he, ⟨w', n.nw.tr hq⟩, rfl⟩
theorem Later.same {P : Program} {f : FuncId} {args : Array Value} {w : World} {n : Later w} {v : Value} (h : Calls P f args n.at_ fun e w' => e = .returned v ∧ n.at_ = w') :
    Calls P f args n.at_ fun e w'' => e = .returned v ∧ ∃ m : Later w, w'' = m.at_ :=
  h.mono fun _ _ ⟨he, hq⟩ => ⟨he, n, hq.symm⟩
theorem wpQuiet_later {P : Program} {ops : Array Oper} {w : World} {Q : Exit → Act → World → Prop} {a : Act} (h : ∀ w', Nw w w' → Q .normal a w') :
    wpQuiet P ops (fun w' => ∃ n : Later w, w' = n.at_) (fun a' => ∀ w', (∃ n : Later w, w' = n.at_) → Q .normal a' w') [] a :=
  wpQuiet_nil fun w' ⟨n, hn⟩ => h w' (by rw [hn]; exact n.nw)
/-- A drawn region whose operations read, and whose callees make new memory alone: one walk in the order of the text. -/
theorem wp_region_later {P : Program} {id : Nat} {Q : Exit → Act → World → Prop} {a : Act} {w : World} {l : List Oper} (hm : P.follows .mixedOrders = true) (hB : Region.lexB .any l.toArray = true)
    (h : wpQuiet P l.toArray (fun w' => ∃ n : Later w, w' = n.at_) (fun a' => ∀ w', (∃ n : Later w, w' = n.at_) → Q .normal a' w') l a) : (Code.region id l.toArray true).wp P Q a w :=
  wp_region_quiet (C := fun w' => ∃ n : Later w, w' = n.at_) hm hB ⟨⟨w.drew, (Fr.refl _ w).drew⟩, rfl⟩ (by simpa using h)
end Go.Proofs.YtkjnlhidnkbelaaGreatDoor
/- A map of the call's own whose keys are names, as a table: what it has under a name, and how many names. -/
namespace Go.Proofs.YtkjnlhidnkbelaaGreatDoor
open Go Go.RowKit

/-- A name as a key. -/
abbrev nmKey (n : Nm) : Value := .agg #[.int .i64 n.1, .int .i64 n.2]
section
variable {P : Program} {k e t : TypeId} {w w' : World} {b s : Nat} {f : Nm → Option Value} {S : Nat → Prop}
end
end Go.Proofs.YtkjnlhidnkbelaaGreatDoor
