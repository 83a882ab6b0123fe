/- Lemmas of the walks: Mem, MemB, Rec, Mid, FlA. (Laid together by shake.py.) -/
import Derived.WalkKit
import Derived.WalkLawsBesides
import Derived.WalkSpells
import Derived.Below
import Derived.Laws.OwnMore
import Derived.Maps.AppendAt
import Derived.Deep.AppendLies
import Derived.Deep.Draws
import Derived.Lib.Hide
import Derived.StillTailTactics
import Derived.Laws.Rows
import Derived.Deep.QuietTactic
import Derived.BigQuiet
import Derived.Laws.Tables
import Derived.Deep.MidRow
set_option linter.unusedVariables false
set_option linter.unusedSimpArgs false
namespace Go.Proofs.YtippdjaakcgeoaaGreat
open Go Go.RowKit

/-- Block g is just these cells, none frozen. -/
def Blk (w : World) (g : Nat) (t : TypeId) (cs : Array Value) : Prop := w.heap[g]? = some (.cells cs t (0, 0))

/-- Only blocks of S, and new ones, have turned. -/
structure Fr (S : Nat → Prop) (w w' : World) : Prop where
  os : w'.os = w.os
  tape : w'.tape = w.tape
  output : w'.output = w.output
  size : w.heap.size ≤ w'.heap.size
  block : ∀ k, k < w.heap.size → ¬ S k → w'.heap[k]? = w.heap[k]?

section
variable {w w' w'' : World} {g : Nat} {t : TypeId} {cs : Array Value} {S S' : Nat → Prop}

theorem Blk.lt (h : Blk w g t cs) : g < w.heap.size := by
  rcases Nat.lt_or_ge g w.heap.size with hlt | hge
  · exact hlt
  · unfold Blk at h; rw [Array.getElem?_eq_none hge] at h; cases h
theorem Blk.cell (h : Blk w g t cs) (i : Nat) : w.cell? ⟨g, i, none⟩ = cs[i]? := cell_of_row w g i cs t (0, 0) h
theorem Blk.frozen (h : Blk w g t cs) (i : Nat) : w.frozen? ⟨g, i, none⟩ = false := by
  unfold Blk at h
  simp [World.frozen?, h]
theorem Blk.new (w : World) (t : TypeId) (cs : Array Value) : Blk (w.alloc (.cells cs t)) w.heap.size t cs := heap_alloc_new w _
theorem Blk.drew (h : Blk w g t cs) : Blk w.drew g t cs := h
theorem Blk.alloc (h : Blk w g t cs) (o : Obj) : Blk (w.alloc o) g t cs := (Below.heap_alloc w o g h.lt).trans h
theorem Blk.set_ (h : Blk w g t cs) (i : Nat) (u : Value) : Blk (w.setCell ⟨g, i, none⟩ u) g t (cs.setIfInBounds i u) := by
  unfold Blk at h ⊢
  simp [World.setCell, Array.getElem?_modify, h]
theorem Blk.far (h : Blk w g t cs) {p : Addr} (hp : g ≠ p.block) (u : Value) : Blk (w.setCell p u) g t cs := (Below.heap_setCell w p u g hp).trans h
theorem Blk.fr (h : Blk w g t cs) (hf : Fr S w w') (hg : ¬ S g) : Blk w' g t cs := (hf.block g h.lt hg).trans h
theorem Blk.inj {t' : TypeId} {cs' : Array Value} (h : Blk w g t cs) (h' : Blk w g t' cs') : t = t' ∧ cs = cs' := by
  unfold Blk at h h'
  rw [h] at h'
  injection h' with h'
  injection h' with h1 h2
  exact ⟨h2, h1⟩
theorem Blk.ne_ {g' : Nat} {t' : TypeId} {cs' : Array Value} (h : Blk w g t cs) (h' : Blk w g' t' cs') (hne : t ≠ t') : g ≠ g' := by
  rintro rfl
  exact hne (h.inj h').1

theorem Fr.refl (S : Nat → Prop) (w : World) : Fr S w w := ⟨rfl, rfl, rfl, Nat.le_refl _, fun _ _ _ => rfl⟩
/-- Two steps: what the second one may turn, the whole may turn, or it is new. -/
theorem Fr.trans (h : Fr S w w') (k : Fr S' w' w'') (hs : ∀ b, S' b → S b ∨ w.heap.size ≤ b) : Fr S w w'' :=
  ⟨k.os.trans h.os, k.tape.trans h.tape, k.output.trans h.output, Nat.le_trans h.size k.size, fun i hi hn =>
    (k.block i (Nat.lt_of_lt_of_le hi h.size) (fun hb => (hs i hb).elim hn (fun hh => by omega))).trans (h.block i hi hn)⟩
theorem Fr.mono (h : Fr S w w') (hs : ∀ b, S b → S' b ∨ w.heap.size ≤ b) : Fr S' w w' :=
  ⟨h.os, h.tape, h.output, h.size, fun i hi hn => h.block i hi (fun hb => (hs i hb).elim hn (fun hh => by omega))⟩
theorem Fr.tr (h : Fr S w w') (k : Fr S w' w'') : Fr S w w'' := h.trans k fun _ hb => .inl hb
theorem Fr.drew (h : Fr S w w') : Fr S w w'.drew := ⟨h.os, h.tape, h.output, h.size, h.block⟩
theorem Fr.drewN (h : Fr S w w') (n : Nat) : Fr S w (w'.drewN n) := ⟨h.os, h.tape, h.output, h.size, h.block⟩
theorem Fr.alloc (h : Fr S w w') (o : Obj) : Fr S w (w'.alloc o) :=
  ⟨h.os, h.tape, h.output, Nat.le_trans h.size (by simp), fun i hi hn => (Below.heap_alloc w' o i (Nat.lt_of_lt_of_le hi h.size)).trans (h.block i hi hn)⟩
theorem Fr.setCell (h : Fr S w w') {p : Addr} (hp : S p.block ∨ w.heap.size ≤ p.block) (u : Value) : Fr S w (w'.setCell p u) :=
  ⟨h.os, h.tape, h.output, by simpa [World.setCell] using h.size, fun i hi hn => (Below.heap_setCell w' p u i (by
    rintro rfl
    rcases hp with hp | hp
    · exact hn hp
    · omega)).trans (h.block i hi hn)⟩
theorem Fr.below {B : Nat} (h : Fr S w w') (hs : ∀ k, S k → B ≤ k) (hB : B ≤ w.heap.size) : Below B w w' :=
  ⟨h.os, h.tape, h.output, h.size, fun i hi => h.block i (by omega) (fun hb => by have := hs i hb; omega)⟩
theorem Fr.cell (h : Fr S w w') {p : Addr} (hp : p.block < w.heap.size) (hn : ¬ S p.block) : w'.cell? p = w.cell? p := World.cell?_of_block (w := w) (h.block p.block hp hn)
/-- Only new blocks were made, or turned. -/
abbrev Nw (w w' : World) : Prop := Fr (fun _ => False) w w'
theorem Fr.new (h : Nw w w') (k : Fr S w' w'') (hs : ∀ b, S b → w.heap.size ≤ b) : Nw w w'' := h.trans k fun b hb => .inr (hs b hb)
theorem Nw.on (h : Nw w w') : Fr S w w' := h.mono fun _ h => h.elim

/-- The cells from A on are cs; they lie in a block of F. -/
def Sl (w : World) (F : Nat → Prop) (A : Option Addr) (cs : List Value) : Prop :=
  cs = [] ∨ ∃ b o, A = some ⟨b, o, none⟩ ∧ F b ∧ b < w.heap.size ∧ ∀ j u, cs[j]? = some u → w.cell? ⟨b, o + j, none⟩ = some u

variable {F F' : Nat → Prop} {A : Option Addr} {xs : List Value}
theorem Sl.nil (w : World) (F : Nat → Prop) (A : Option Addr) : Sl w F A [] := .inl rfl
theorem Sl.at_ (h : Sl w F A xs) (hne : xs ≠ []) : ∃ b o, A = some ⟨b, o, none⟩ ∧ F b ∧ b < w.heap.size ∧ ∀ j u, xs[j]? = some u → w.cell? ⟨b, o + j, none⟩ = some u := h.resolve_left hne
theorem Sl.fr (h : Sl w F A xs) (hf : Fr S w w') (hn : ∀ b, F b → ¬ S b) : Sl w' F A xs := by
  rcases h with h | ⟨b, o, hA, hF, hb, hc⟩
  · exact .inl h
  · exact .inr ⟨b, o, hA, hF, Nat.lt_of_lt_of_le hb hf.size, fun j u hu => (hf.cell hb (hn b hF)).trans (hc j u hu)⟩
theorem Sl.mono (h : Sl w F A xs) (hF : ∀ b, F b → b < w.heap.size → F' b) : Sl w F' A xs := by
  rcases h with h | ⟨b, o, hA, hFb, hb, hc⟩
  · exact .inl h
  · exact .inr ⟨b, o, hA, hF b hFb hb, hb, hc⟩
/-- The address of 's[l:..]'. -/
def cutA (A : Option Addr) (m l s : Nat) : Option Addr := if m = l then A else A.map (·.add (l * s))
theorem Sl.cut {n m s l k : Nat} (h : Sl w F A xs) (hl : xs.length = n * s) (hk : k ≤ n) (hm : n ≤ m) (hlk : l ≤ k) : Sl w F (cutA A m l s) ((xs.drop (l * s)).take ((k - l) * s)) := by
  by_cases he : (xs.drop (l * s)).take ((k - l) * s) = []
  · exact .inl he
  have hne : xs ≠ [] := by rintro rfl; simp at he
  have hlt : ¬ m = l := by
    intro e
    have : k - l = 0 := by omega
    rw [this] at he
    simp at he
  obtain ⟨b, o, rfl, hF, hb, hc⟩ := h.at_ hne
  refine .inr ⟨b, o + l * s, ?_, hF, hb, fun j u hu => ?_⟩
  · simp only [cutA, if_neg hlt, Option.map_some, Addr.add_lit]
  · rw [List.getElem?_take] at hu
    split at hu
    · rw [List.getElem?_drop] at hu
      rw [Nat.add_assoc]
      exact hc _ u hu
    · cases hu
theorem Sl.drop {n m s l : Nat} (h : Sl w F A xs) (hl : xs.length = n * s) (hm : n ≤ m) (hln : l ≤ n) : Sl w F (cutA A m l s) (xs.drop (l * s)) := by
  have := h.cut (k := n) hl (Nat.le_refl _) hm hln
  rwa [List.take_of_length_le (by rw [List.length_drop, hl, Nat.sub_mul]; exact Nat.le_refl _)] at this
theorem cutA_zero (A : Option Addr) (m s : Nat) : cutA A m 0 s = A := by
  unfold cutA
  split
  · rfl
  · cases A <;> simp [Addr.add]
theorem Sl.pre {k : Nat} (h : Sl w F A xs) : Sl w F A (xs.take k) := by
  rcases h with rfl | ⟨b, o, hA, hF, hb, hc⟩
  · exact .inl (by simp)
  · refine .inr ⟨b, o, hA, hF, hb, fun j u hu => hc j u ?_⟩
    rw [List.getElem?_take] at hu
    split at hu
    · exact hu
    · cases hu
/-- A slice of a block that is known whole. -/
theorem Blk.sl (h : Blk w g t cs) (o : Nat) (k : Nat) : Sl w (· = g) (some ⟨g, o, none⟩) ((cs.toList.drop o).take k) := by
  refine .inr ⟨g, o, rfl, rfl, h.lt, fun j u hu => ?_⟩
  rw [h.cell, ← Array.getElem?_toList]
  rw [List.getElem?_take] at hu
  split at hu
  · rwa [List.getElem?_drop] at hu
  · cases hu
end

/-- The block of an address. -/
def inA (A : Option Addr) (k : Nat) : Prop := ∃ a, A = some a ∧ a.block = k
theorem inA_none (k : Nat) : ¬ inA none k := by rintro ⟨a, h, _⟩; cases h
theorem inA_some (a : Addr) (k : Nat) : inA (some a) k ↔ k = a.block := by
  constructor
  · rintro ⟨_, h, rfl⟩; injection h with h; rw [h]
  · rintro rfl; exact ⟨_, rfl, rfl⟩

/-- A slice of the call's own: it begins at its block's head, nothing of the block is frozen. -/
def Own (w : World) (E : TypeId) (size : Nat) (A : Option Addr) (n cap : Nat) (cs : List Value) : Prop :=
  cs.length = n * size ∧ ((A = none ∧ n = 0 ∧ cap = 0) ∨
    ∃ g cur, A = some ⟨g, 0, none⟩ ∧ Blk w g E cur ∧ n ≤ cap ∧ cap ≤ maxLen ∧ cur.size = cap * size ∧ cur.toList.take (n * size) = cs)

section
variable {w w' : World} {E : TypeId} {size n cap : Nat} {A : Option Addr} {cs : List Value} {S F : Nat → Prop}
theorem Own.nil (w : World) (E : TypeId) (size : Nat) : Own w E size none 0 0 [] := ⟨by simp, .inl ⟨rfl, rfl, rfl⟩⟩
theorem Own.fr (h : Own w E size A n cap cs) (hf : Fr S w w') (hn : ∀ k, inA A k → ¬ S k) : Own w' E size A n cap cs := by
  refine ⟨h.1, ?_⟩
  rcases h.2 with h2 | ⟨g, cur, rfl, hb, r⟩
  · exact .inl h2
  · exact .inr ⟨g, cur, rfl, hb.fr hf (hn g ((inA_some _ _).2 rfl)), r⟩
theorem Own.sl (h : Own w E size A n cap cs) : Sl w (inA A) A cs := by
  rcases h.2 with ⟨_, rfl, _⟩ | ⟨g, cur, rfl, hb, _, _, _, rfl⟩
  · exact .inl (List.eq_nil_of_length_eq_zero (by simpa using h.1))
  · have := hb.sl 0 (n * size)
    rw [List.drop_zero] at this
    exact this.mono fun b hb' _ => (inA_some _ _).2 hb'
theorem Own.lt (h : Own w E size A n cap cs) : ∀ k, inA A k → k < w.heap.size := by
  intro k hk
  rcases h.2 with ⟨rfl, _⟩ | ⟨g, cur, rfl, hb, _⟩
  · exact (inA_none _ hk).elim
  · rw [(inA_some _ _).1 hk]; exact hb.lt
theorem Own.ne_ {g : Nat} {t : TypeId} {bs : Array Value} (h : Own w E size A n cap cs) (hb : Blk w g t bs) (hne : t ≠ E) : ¬ inA A g := by
  intro hk
  rcases h.2 with ⟨rfl, _⟩ | ⟨g', cur, rfl, hb', _⟩
  · exact inA_none _ hk
  · have := (inA_some _ _).1 hk
    subst this
    exact hne (hb.inj hb').1
theorem Own.cap_le (h : Own w E size A n cap cs) : n ≤ cap ∧ cap ≤ maxLen := by
  rcases h.2 with ⟨_, rfl, rfl⟩ | ⟨g, cur, rfl, hb, h1, h2, _⟩
  · exact ⟨Nat.le_refl _, Nat.zero_le _⟩
  · exact ⟨h1, h2⟩
theorem Own.alloc (h : Own w E size A n cap cs) (o : Obj) : Own (w.alloc o) E size A n cap cs :=
  h.fr (S := fun _ => False) ((Fr.refl _ w).alloc o) (fun _ _ h => h)
theorem Own.setCell (h : Own w E size A n cap cs) {p : Addr} (hp : ¬ inA A p.block) (u : Value) : Own (w.setCell p u) E size A n cap cs :=
  h.fr (S := (· = p.block)) ((Fr.refl (· = p.block) w).setCell (.inl rfl) u) (fun k hk (e : k = p.block) => hp (e ▸ hk))
theorem Sl.alloc {F : Nat → Prop} {xs : List Value} (h : Sl w F A xs) (o : Obj) : Sl (w.alloc o) F A xs :=
  h.fr (S := fun _ => False) ((Fr.refl _ w).alloc o) (fun _ _ h => h)
theorem Own.new (w : World) (E : TypeId) (size n cap : Nat) (cur : Array Value) (hc : n ≤ cap) (hm : cap ≤ maxLen) (hs : cur.size = cap * size) :
    Own (w.alloc (.cells cur E)) E size (some ⟨w.heap.size, 0, none⟩) n cap (cur.toList.take (n * size)) := by
  refine ⟨?_, .inr ⟨w.heap.size, cur, rfl, Blk.new w E cur, hc, hm, hs, rfl⟩⟩
  rw [List.length_take, Array.length_toList, hs]
  exact Nat.min_eq_left (Nat.mul_le_mul_right _ hc)
theorem own_of_owns {v : Value} (h : w.ownsRow 0 E size v n cs) : ∃ A cap, v = .slice A n cap ∧ Own w E size A n cap cs := by
  rcases h.2 with ⟨rfl, rfl⟩ | ⟨g, cap, cur, rfl, _, hb, r⟩
  · exact ⟨none, 0, rfl, h.1, .inl ⟨rfl, rfl, rfl⟩⟩
  · exact ⟨some ⟨g, 0, none⟩, cap, rfl, h.1, .inr ⟨g, cur, rfl, hb, r⟩⟩

variable {P : Program}
/-- What an append leaves: it had room, or it grew. -/
def AppTo (w : World) (E : TypeId) (size : Nat) (A : Option Addr) (n cap m : Nat) (cs news : List Value) (A' : Option Addr) (cap' : Nat) (w' : World) : Prop :=
  Own w' E size A' (n + m) cap' (cs ++ news) ∧ Own w' E size A n cap cs ∧
    ((n + m ≤ cap ∧ A' = A ∧ cap' = cap ∧ Fr (inA A) w w') ∨ (cap < n + m ∧ A' = some ⟨w.heap.size, 0, none⟩ ∧ Nw w w'))

/-- 'append(s, x...)', s the call's own, x whatever reads as a list. -/
theorem run_append_two (w : World) (t ty : TypeId) (bytes : Nat) (z : Value) (ht : P.underlying t = some (.slice E))
    (hinfo : (P.info? E).map (fun i => (i.zero, i.size, i.bytes)) = some (some z, size, bytes)) (hzs : z.cells.size = size) (hsz : 0 < size)
    (hown : Own w E size A n cap cs) {A2 : Option Addr} {m c : Nat} {news : List Value} (hsl : Sl w F A2 news) (hl : news.length = m * size) (h1 : ∀ u ∈ news, u.oneCell' = true)
    (hbytes : (n + m) * bytes ≤ 140737488355328) (hmax : n + m ≤ maxLen) :
    ∃ A' cap' w', (Builtin.append_ #[t, t] ty #[.slice A n cap, .slice A2 m c]).run P w = .ok (.slice A' (n + m) cap') w' ∧ AppTo w E size A n cap m cs news A' cap' w' := by
  obtain ⟨i, hi, hz0, hz1, hz2⟩ := info_parts hinfo
  subst hz1
  subst hz2
  have hsmall : n + m ≤ 9223372036854775807 := by simp only [maxLen] at hmax; omega
  have hlen : (cs ++ news).length = (n + m) * i.size := by rw [List.length_append, hown.1, hl, Nat.add_mul]
  have hcap := hown.cap_le
  by_cases hm0 : m = 0
  · subst hm0
    have hn : news = [] := List.eq_nil_of_length_eq_zero (by simpa using hl)
    subst hn
    have hrun : (Builtin.append_ #[t, t] ty #[.slice A n cap, .slice A2 0 c]).run P w = .ok (.slice A n cap) w := by
      rcases hown.2 with ⟨rfl, rfl, rfl⟩ | ⟨g, cur, rfl, _, hnc, _⟩
      · cases A2 <;> simp [Builtin.append_, run_underlying ht, sizeOf, typeInfo, hi, Builtin.lenOf, Builtin.firstCells, loadCells, loadCellsFrom]
      · cases A2 <;> simp [Builtin.append_, run_underlying ht, sizeOf, typeInfo, hi, Builtin.lenOf, Builtin.firstCells, hnc, storeCells, loadCells, loadCellsFrom]
    exact ⟨A, cap, w, by simpa using hrun, by simpa using hown, hown, .inl ⟨by omega, rfl, rfl, Fr.refl _ _⟩⟩
  · have hne : news ≠ [] := by
      rintro rfl
      have := Nat.mul_pos (Nat.pos_of_ne_zero hm0) hsz
      simp at hl; omega
    obtain ⟨b, o, rfl, _, _, hc⟩ := hsl.at_ hne
    have hcells : ∀ j u, news[j]? = some u → w.cell? ((⟨b, o, none⟩ : Addr).add j) = some u := by
      intro j u hu
      rw [Addr.add_lit]
      exact hc j u hu
    by_cases hroom : n + m ≤ cap
    · rcases hown.2 with ⟨rfl, rfl, rfl⟩ | ⟨g, cur, rfl, hg, hnc, hcm, hcs, htake⟩
      · omega
      · have hfit : n * i.size + news.length ≤ cur.size := by rw [hl, hcs, ← Nat.add_mul]; exact Nat.mul_le_mul_right _ hroom
        have hr := run_append_room (P := P) w t ty E i ht hi g n cap cur hg _ m c news hl hcells h1 hroom hfit
        have hnew : Blk (w.setRow g (cur.toList.take (n * i.size) ++ news ++ cur.toList.drop (n * i.size + news.length)).toArray) g E (cur.toList.take (n * i.size) ++ news ++ cur.toList.drop (n * i.size + news.length)).toArray := setRow_heap w g cur _ E _ hg
        have hnl : (cur.toList.take (n * i.size)).length = n * i.size := by rw [htake]; exact hown.1
        have hsz2 : (cur.toList.take (n * i.size) ++ news ++ cur.toList.drop (n * i.size + news.length)).toArray.size = cap * i.size := by
          simp only [List.size_toArray, List.length_append, List.length_take, List.length_drop, Array.length_toList]
          omega
        refine ⟨_, _, _, hr, ⟨hlen, .inr ⟨g, _, rfl, hnew, hroom, hcm, hsz2, ?_⟩⟩, ⟨hown.1, .inr ⟨g, _, rfl, hnew, hnc, hcm, hsz2, ?_⟩⟩, .inl ⟨hroom, rfl, rfl, ?_⟩⟩
        · rw [htake, ← hlen]
          exact List.take_left
        · rw [htake, List.append_assoc]
          have := hown.1
          rw [← this]
          exact List.take_left
        · exact ⟨rfl, rfl, rfl, by simp, fun k _ hk => setRow_other w g k _ (fun e => hk ((inA_some _ _).2 e))⟩
    · have hlt : cap < n + m := by omega
      have fin : ∀ old, (Builtin.append_ #[t, t] ty #[.slice A n cap, .slice (some ⟨b, o, none⟩) m c]).run P w = .ok (.slice (some ⟨w.heap.size, 0, none⟩) (n + m) (grownCap w (n + m) old E))
            (w.drew.alloc (.cells (cs.toArray ++ news.toArray ++ Builtin.zeroCells z.cells (grownCap w (n + m) old E - (n + m))) E)) →
          ∃ A' cap' w', (Builtin.append_ #[t, t] ty #[.slice A n cap, .slice (some ⟨b, o, none⟩) m c]).run P w = .ok (.slice A' (n + m) cap') w' ∧ AppTo w E i.size A n cap m cs news A' cap' w' := by
        intro old hr
        have hge := grownCap_ge w (n + m) old E
        have hcm : grownCap w (n + m) old E ≤ maxLen := grownCap_le_maxLen w (n + m) old E hmax
        refine ⟨_, _, _, hr, ⟨hlen, .inr ⟨w.heap.size, _, rfl, heap_alloc_new w.drew _, hge, hcm, ?_, ?_⟩⟩, ?_, .inr ⟨hlt, rfl, ((Fr.refl _ w).drew).alloc _⟩⟩
        · simp only [Array.size_append, List.size_toArray, size_zeroCells, hzs, hown.1, hl, ← Nat.add_mul]
          congr 1
          omega
        · simp only [Array.toList_append, List.append_assoc]
          rw [← List.append_assoc, ← hlen]
          exact List.take_left
        · exact hown.fr (S := fun _ => False) (((Fr.refl _ w).drew).alloc _) (fun _ _ h => h)
      rcases hown.2 with ⟨rfl, rfl, rfl⟩ | ⟨g, cur, rfl, hg, hnc, hcm, hcs, htake⟩
      · have hx : cs = [] := List.eq_nil_of_length_eq_zero (by simpa using hown.1)
        subst hx
        refine fin 0 ?_
        have hr := run_append_nil (P := P) w t ty E i z ht hi hz0 _ m c news hl hcells (by omega) (by omega) (by have hb := hbytes; simp only [Nat.zero_add] at hb; omega)
        simp only [Nat.zero_add, Array.empty_append] at hr ⊢
        exact hr
      · refine fin cap ?_
        have holds : ∀ j u, cs[j]? = some u → w.cell? ((⟨g, 0, none⟩ : Addr).add j) = some u := by
          intro j u hu
          rcases hown.sl with h | ⟨b', o', h, _, _, hc'⟩
          · subst h; simp at hu
          · injection h with h
            injection h with h1 h2
            subst h1; subst h2
            rw [Addr.add_lit]
            exact hc' j u hu
        exact run_append_grow (P := P) w t ty E i z ht hi hz0 ⟨g, 0, none⟩ n cap cs hown.1 holds _ m c news hl hcells (by omega) (by omega) (growslice_fits (by omega) hbytes)

theorem run_append_sl (w : World) (t ty : TypeId) (bytes : Nat) (z : Value) (ht : P.underlying t = some (.slice E))
    (hinfo : (P.info? E).map (fun i => (i.zero, i.size, i.bytes)) = some (some z, size, bytes)) (hzs : z.cells.size = size) (hsz : 0 < size)
    (hown : Own w E size A n cap cs) {A2 : Option Addr} {m c : Nat} {news : List Value} (hsl : Sl w F A2 news) (hl : news.length = m * size) (h1 : ∀ u ∈ news, u.oneCell' = true)
    (hbytes : (n + m) * bytes ≤ 140737488355328) (hmax : n + m ≤ maxLen) :
    ∃ A' cap' w', (Builtin.append_ #[t, t] ty #[.slice A n cap, .slice A2 m c]).run P w = .ok (.slice A' (n + m) cap') w' ∧ Own w' E size A' (n + m) cap' (cs ++ news) ∧ Fr (inA A) w w' ∧
      (∀ k, inA A' k → inA A k ∨ k = w.heap.size) := by
  obtain ⟨A', cap', w', hrun, h2, _, h3⟩ := run_append_two (P := P) w t ty bytes z ht hinfo hzs hsz hown hsl hl h1 hbytes hmax (c := c)
  refine ⟨A', cap', w', hrun, h2, ?_⟩
  rcases h3 with ⟨_, rfl, rfl, hf⟩ | ⟨_, rfl, hf⟩
  · exact ⟨hf, fun k hk => .inl hk⟩
  · exact ⟨Nw.on hf, fun k hk => .inr ((inA_some _ _).1 hk)⟩

/-- The walk over such an append. -/
theorem wl_append {w : World} {ops : Array Oper} {rest : List Oper} {o : Oper} {a : Act} {Q : Exit → Act → World → Prop} (hgd : o.guard = none) (s x : Operand) (t : TypeId)
    (ho : o.op = .call { callee := .builtin .append, args := #[s, x], argTypes := #[t, t] }) (bytes : Nat) (z : Value) (ht : P.underlying t = some (.slice E))
    (hinfo : (P.info? E).map (fun i => (i.zero, i.size, i.bytes)) = some (some z, size, bytes)) (hzs : z.cells.size = size) (hsz : 0 < size)
    (hs : a.eval s = .slice A n cap) (hown : Own w E size A n cap cs) {A2 : Option Addr} {m c : Nat} {news : List Value} (hx : a.eval x = .slice A2 m c) (hsl : Sl w F A2 news) (hl : news.length = m * size) (h1 : ∀ u ∈ news, u.oneCell' = true)
    (hbytes : (n + m) * bytes ≤ 140737488355328) (hmax : n + m ≤ maxLen)
    (h : ∀ A' cap' w', Own w' E size A' (n + m) cap' (cs ++ news) → Fr (inA A) w w' → (∀ k, inA A' k → inA A k ∨ k = w.heap.size) → wpList P ops Q rest (a.put o.dst (.slice A' (n + m) cap')) w') :
    wpList P ops Q (o :: rest) a w := by
  refine wpList_plain hgd fun K hK' => ?_
  obtain ⟨A', cap', w', hrun, h2, h3, h4⟩ := run_append_sl (P := P) w t o.type bytes z ht hinfo hzs hsz hown hsl hl h1 hbytes hmax
  unfold Oper.wp execOp
  simp only [ho, resolve, invoke, builtin, Sem.run_bind, Sem.run_pure, Result.andThen_ok, List.map_toArray, List.map_cons, List.map_nil, hs, hx]
  rw [hrun]
  exact hK' _ _ (h A' cap' w' h2 h3 h4)

/-- The same, and all that is known. -/
theorem wl_append2 {w : World} {ops : Array Oper} {rest : List Oper} {o : Oper} {a : Act} {Q : Exit → Act → World → Prop} (hgd : o.guard = none) (s x : Operand) (t : TypeId)
    (ho : o.op = .call { callee := .builtin .append, args := #[s, x], argTypes := #[t, t] }) (bytes : Nat) (z : Value) (ht : P.underlying t = some (.slice E))
    (hinfo : (P.info? E).map (fun i => (i.zero, i.size, i.bytes)) = some (some z, size, bytes)) (hzs : z.cells.size = size) (hsz : 0 < size)
    (hs : a.eval s = .slice A n cap) (hown : Own w E size A n cap cs) {A2 : Option Addr} {m c : Nat} {news : List Value} (hx : a.eval x = .slice A2 m c) (hsl : Sl w F A2 news) (hl : news.length = m * size) (h1 : ∀ u ∈ news, u.oneCell' = true)
    (hbytes : (n + m) * bytes ≤ 140737488355328) (hmax : n + m ≤ maxLen)
    (h : ∀ A' cap' w', AppTo w E size A n cap m cs news A' cap' w' → wpList P ops Q rest (a.put o.dst (.slice A' (n + m) cap')) w') :
    wpList P ops Q (o :: rest) a w := by
  refine wpList_plain hgd fun K hK' => ?_
  obtain ⟨A', cap', w', hrun, h2⟩ := run_append_two (P := P) w t o.type bytes z ht hinfo hzs hsz hown hsl hl h1 hbytes hmax (c := c)
  unfold Oper.wp execOp
  simp only [ho, resolve, invoke, builtin, Sem.run_bind, Sem.run_pure, Result.andThen_ok, List.map_toArray, List.map_cons, List.map_nil, hs, hx]
  rw [hrun]
  exact hK' _ _ (h A' cap' w' h2)
end

section
variable {P : Program} {w : World} {E : TypeId} {size : Nat}
/-- 'make([]T, 0, n)'. -/
theorem wl_make0 {ops : Array Oper} {rest : List Oper} {o : Oper} {a : Act} {Q : Exit → Act → World → Prop} (hgd : o.guard = none) (l c : Operand) (t : TypeId) (hop : o.op = Op.makeSlice t l c) (bytes : Nat) (z : Value)
    (ht : P.underlying t = some (.slice E)) (hinfo : (P.info? E).map (fun i => (i.zero, i.size, i.bytes)) = some (some z, size, bytes)) (kl kc : IntKind) (C : Int) (n : Nat) (hl : a.eval l = .int kl 0) (hc : a.eval c = .int kc C) (hC : C = (n : Int))
    (hb : bytes * n ≤ 281474976710656) (hm : n ≤ maxLen)
    (h : ∀ w', Own w' E size (some ⟨w.heap.size, 0, none⟩) 0 n [] → Nw w w' → wpList P ops Q rest (a.put o.dst (.slice (some ⟨w.heap.size, 0, none⟩) 0 n)) w') : wpList P ops Q (o :: rest) a w := by
  obtain ⟨i, hi, hz0, hz1, hz2⟩ := info_parts hinfo
  subst hz2
  refine wpList_make_own w hgd l c t hop 0 E i z size ht hi hz0 hz1 kl kc C n hl hc hC hb hm (Nat.zero_le _) fun w' r1 r2 => ?_
  obtain ⟨A, cap, he, ho⟩ := own_of_owns r1
  injection he with he1 he2 he3
  subst he1; subst he3
  exact h w' ho ⟨r2.os, r2.tape, r2.output, r2.size, fun k hk _ => r2.block k hk (by simp)⟩
/-- 'make([]T, n)'. -/
theorem wl_make {ops : Array Oper} {rest : List Oper} {o : Oper} {a : Act} {Q : Exit → Act → World → Prop} (hgd : o.guard = none) (l c : Operand) (t : TypeId) (hop : o.op = Op.makeSlice t l c) (bytes : Nat) (z : Value)
    (ht : P.underlying t = some (.slice E)) (hinfo : (P.info? E).map (fun i => (i.zero, i.size, i.bytes)) = some (some z, 1, bytes)) (hz1c : z.cells = #[z]) (kl kc : IntKind) (C1 C2 : Int) (n : Nat) (hl : a.eval l = .int kl C1) (hc : a.eval c = .int kc C2) (hC1 : C1 = (n : Int)) (hC2 : C2 = (n : Int))
    (hb : bytes * n ≤ 281474976710656) (hm : n ≤ maxLen)
    (h : ∀ w', Own w' E 1 (some ⟨w.heap.size, 0, none⟩) n n (List.replicate n z) → Nw w w' → wpList P ops Q rest (a.put o.dst (.slice (some ⟨w.heap.size, 0, none⟩) n n)) w') : wpList P ops Q (o :: rest) a w := by
  obtain ⟨i, hi, hz0, hz1, hz2⟩ := info_parts hinfo
  subst hz2
  refine wpList_make_full w hgd l c t hop 0 E i z 1 ht hi hz0 hz1 kl kc C1 C2 n hl hc hC1 hC2 hb hm (Nat.zero_le _) fun w' r1 r2 => ?_
  obtain ⟨A, cap, he, ho⟩ := own_of_owns r1
  injection he with he1 he2 he3
  subst he1; subst he3
  rw [hz1c, Nat.mul_one, toList_madeCells_one] at ho
  exact h w' ho ⟨r2.os, r2.tape, r2.output, r2.size, fun k hk _ => r2.block k hk (by simp)⟩
end

section
variable {w : World} {E : TypeId} {size n cap : Nat} {g : Nat} {cs : List Value}
theorem Own.blk (h : Own w E size (some ⟨g, 0, none⟩) n cap cs) : ∃ cur, Blk w g E cur ∧ n ≤ cap ∧ cap ≤ maxLen ∧ cur.size = cap * size ∧ cur.toList.take (n * size) = cs := by
  rcases h.2 with ⟨h, _⟩ | ⟨g', cur, h, r⟩
  · cases h
  · injection h with h; injection h with h; subst h; exact ⟨cur, r⟩
theorem Own.cellAt (h : Own w E size (some ⟨g, 0, none⟩) n cap cs) {k : Nat} (hk : k < n * size) : w.cell? ⟨g, k, none⟩ = cs[k]? := by
  obtain ⟨cur, hb, _, _, _, rfl⟩ := h.blk
  rw [hb.cell, List.getElem?_take, if_pos hk, Array.getElem?_toList]
theorem Own.frozenAt (h : Own w E size (some ⟨g, 0, none⟩) n cap cs) (k : Nat) : w.frozen? ⟨g, k, none⟩ = false := by
  obtain ⟨cur, hb, _⟩ := h.blk
  exact hb.frozen k
theorem Own.store (h : Own w E size (some ⟨g, 0, none⟩) n cap cs) (k : Nat) (u : Value) : Own (w.setCell ⟨g, k, none⟩ u) E size (some ⟨g, 0, none⟩) n cap (cs.set k u) := by
  obtain ⟨cur, hb, h1, h2, h3, rfl⟩ := h.blk
  refine ⟨by simpa using h.1, .inr ⟨g, _, rfl, hb.set_ k u, h1, h2, by simpa using h3, ?_⟩⟩
  rw [Array.toList_setIfInBounds, List.take_set]
theorem Own.pre {k : Nat} {A : Option Addr} (h : Own w E size A n cap cs) (hk : k ≤ n) (hA : A ≠ none) : Own w E size A k cap (cs.take (k * size)) := by
  rcases h.2 with ⟨rfl, _⟩ | ⟨g', cur, rfl, hb, h1, h2, h3, h4⟩
  · exact (hA rfl).elim
  · refine ⟨?_, .inr ⟨g', cur, rfl, hb, by omega, h2, h3, ?_⟩⟩
    · rw [List.length_take, h.1]; exact Nat.min_eq_left (Nat.mul_le_mul_right _ hk)
    · rw [← h4, List.take_take]; congr 1; exact (Nat.min_eq_left (Nat.mul_le_mul_right _ hk)).symm
end

/- Slicing as the walk is to write it: the address behind a name, no 'if' to part on. Laid into the context ahead of a walk. -/
section
variable {P : Program} (t : TypeId) (ht : P.underlying t = some (.slice (P.elem t))) (s : Nat) (hz : ∀ w, (sizeOf (P.elem t)).run P w = .ok s w) (a : Option Addr) (len cap : Nat)
include ht hz
theorem slice_h (h : Nat) (h2 : h ≤ cap) (w : World) :
    (Instr.slice t (.slice a len cap) none (some (.int .i64 (h : Int))) none).run P w = .ok (.slice a h cap) w := by
  rw [run_slice_h w t a len cap ht .i64 h (by omega) (by omega), hz]
  have e : (if cap = 0 then a else a.map (·.add (0 * s))) = a := cutA_zero a cap s
  simp only [Result.andThen, sliced, e, Int.toNat_natCast, Nat.sub_zero]
theorem slice_l (l : Nat) (h1 : l ≤ len) (w : World) :
    (Instr.slice t (.slice a len cap) (some (.int .i64 (l : Int))) none none).run P w = .ok (.slice (cutA a cap l s) (len - l) (cap - l)) w := by
  rw [run_slice_l w t a len cap ht .i64 l (by omega) (by omega), hz]; rfl
end

/-- An integer as a value. -/
abbrev I64 (n : Int) : Value := .int .i64 n

section
variable {w w' : World} {F F' S : Nat → Prop} {A : Option Addr} {α : Type}
theorem Sl.get {f : α → Value} {l : List α} (h : Sl w F A (l.map f)) {k : Nat} (hk : k < l.length) : ∃ b o, A = some ⟨b, o, none⟩ ∧ F b ∧ w.cell? ⟨b, o + k, none⟩ = some (f l[k]) := by
  obtain ⟨b, o, hA, hF, _, hc⟩ := h.at_ (by intro e; have := congrArg List.length e; simp at this; simp [this] at hk)
  exact ⟨b, o, hA, hF, hc k _ (by simp [hk])⟩
theorem foldl_take_succ {β : Type} (f : β → α → β) (l : List α) (k : Nat) (h : k < l.length) (s : β) : (l.take (k + 1)).foldl f s = f ((l.take k).foldl f s) l[k] := by
  rw [List.take_succ_eq_append_getElem h, List.foldl_append]
  rfl

end

end Go.Proofs.YtippdjaakcgeoaaGreat

namespace Go.Proofs.YtippdjaakcgeoaaGreat
open Go Go.RowKit

/-- A drawn region whose last operations stand in one order: the world behind its name. -/
theorem wp_region_tail {P : Program} {id : Nat} {Q : Exit → Act → World → Prop} {a : Act} {w : World} {l : List Oper} (n : Nat) (hm : P.follows .mixedOrders = true) (hB : Region.lexTailB .any l.toArray n = true)
    (h : wpStill P l.toArray w.drew (fun a' => wpList P l.toArray Q (l.drop n) a' w.drew) (l.take n) a) : (Code.region id l.toArray true).wp P Q a w :=
  wp_region_still_tail n hm hB h

section
variable {P : Program}
/-- A struct's, or an array's, cells loaded at once. -/
theorem run_loadVar_cells (w : World) (g o : Nat) (ty : TypeId) (cs : List Value) (d : TypeDesc) (hc : ∀ j v, cs[j]? = some v → w.cell? ⟨g, o + j, none⟩ = some v)
    (hu : P.underlying ty = some d) (hd : (match d with | .struct _ | .array _ _ => true | _ => false) = true) (hi : (P.info? ty).map (·.size) = some cs.length) :
    (loadVar ty ⟨g, o, none⟩).run P w = .ok (.agg cs.toArray) w := by
  have hl : (loadCells ⟨g, o, none⟩ cs.length).run P w = .ok cs.toArray w :=
    run_loadCells_list (P := P) w ⟨g, o, none⟩ cs (fun j v hv => by
      rw [Addr.add_lit]
      exact hc j v hv)
  cases hq : P.info? ty with
  | none => simp [hq] at hi
  | some i =>
    have hs : i.size = cs.length := by simpa [hq] using hi
    have hagg : (isAgg ty).run P w = .ok true w := by
      unfold isAgg
      rw [Sem.run_bind, run_underlying hu w]
      cases d <;> simp_all
    simp [loadVar, Sem.run_bind, hagg, sizeOf, typeInfo, hq, hs, hl]
theorem wp_load_cells {o : Oper} {a : Act} {w : World} {K : Act → World → Prop} {Q : Exit → Act → World → Prop} (ty : TypeId) (x : Operand) (ho : o.op = .load ty x)
    (g off : Nat) (hx : a.eval x = .pointer (some ⟨g, off, none⟩)) (cs : List Value) (d : TypeDesc) (hc : ∀ j v, cs[j]? = some v → w.cell? ⟨g, off + j, none⟩ = some v)
    (hu : P.underlying ty = some d) (hd : (match d with | .struct _ | .array _ _ => true | _ => false) = true) (hi : (P.info? ty).map (·.size) = some cs.length)
    (h : K (a.put o.dst (.agg cs.toArray)) w) : o.wp P a w K Q := by
  unfold Oper.wp execOp
  simp only [ho, hx, Instr.loadAt, Instr.sureAddr, Sem.run_bind, Sem.run_pure, Result.andThen_ok, run_loadVar_cells w g off ty cs d hc hu hd hi]
  exact h
theorem wl_load_cells {ops : Array Oper} {rest : List Oper} {o : Oper} {a : Act} {w : World} {Q : Exit → Act → World → Prop} (hgd : o.guard = none) (ty : TypeId) (x : Operand) (ho : o.op = .load ty x)
    (g off : Nat) (hx : a.eval x = .pointer (some ⟨g, off, none⟩)) (cs : List Value) (d : TypeDesc) (hc : ∀ j v, cs[j]? = some v → w.cell? ⟨g, off + j, none⟩ = some v)
    (hu : P.underlying ty = some d) (hd : (match d with | .struct _ | .array _ _ => true | _ => false) = true) (hi : (P.info? ty).map (·.size) = some cs.length)
    (h : wpList P ops Q rest (a.put o.dst (.agg cs.toArray)) w) : wpList P ops Q (o :: rest) a w :=
  wpList_plain hgd fun _ hK => wp_load_cells ty x ho g off hx cs d hc hu hd hi (hK _ _ h)
end

/-- The cells of a block that was made just now. -/
theorem sl_new (w : World) (t : TypeId) (cs : List Value) (n : Nat) (hn : w.heap.size = n) : Sl (w.alloc (.cells cs.toArray t)) (· = n) (some ⟨n, 0, none⟩) cs := by
  subst hn
  have h := (Blk.new w t cs.toArray).sl 0 cs.length
  simpa using h

/-- A world in which only new blocks were made, or turned, since w. -/
def Later (w : World) : Type := { w' : World // Nw w w' }
instance (w : World) : Nonempty (Later w) := ⟨⟨w, Fr.refl _ _⟩⟩
def Later.at_ {w : World} (n : Later w) : World := n.val
theorem Later.nw {w : World} (n : Later w) : Nw w n.at_ := n.property
theorem Later.cell {w : World} {p : Addr} {v : Value} (h : w.cell? p = some v) (n : Later w) : n.at_.cell? p = some v :=
  (n.nw.cell (World.block_lt_of_cell? _ _ h) (fun h => h)).trans h
theorem Later.call {P : Program} {f : FuncId} {args : Array Value} {w : World} {n : Later w} {v : Value} (h : Calls P f args n.at_ fun e w' => e = .returned v ∧ Nw n.at_ w') :
    Calls P f args n.at_ fun e w'' => e = .returned v ∧ ∃ m : Later w, w'' = m.at_ :=
  h.mono fun _ w' ⟨he, hq⟩ => ⟨he, ⟨w', n.nw.tr hq⟩, rfl⟩
theorem Later.same {P : Program} {f : FuncId} {args : Array Value} {w : World} {n : Later w} {v : Value} (h : Calls P f args n.at_ fun e w' => e = .returned v ∧ n.at_ = w') :
    Calls P f args n.at_ fun e w'' => e = .returned v ∧ ∃ m : Later w, w'' = m.at_ :=
  h.mono fun _ _ ⟨he, hq⟩ => ⟨he, n, hq.symm⟩
theorem wpQuiet_later {P : Program} {ops : Array Oper} {w : World} {Q : Exit → Act → World → Prop} {a : Act} (h : ∀ w', Nw w w' → Q .normal a w') :
    wpQuiet P ops (fun w' => ∃ n : Later w, w' = n.at_) (fun a' => ∀ w', (∃ n : Later w, w' = n.at_) → Q .normal a' w') [] a :=
  wpQuiet_nil fun w' ⟨n, hn⟩ => h w' (by rw [hn]; exact n.nw)
/-- A drawn region whose operations read, and whose callees make new memory alone: one walk in the order of the text. -/
theorem wp_region_later {P : Program} {id : Nat} {Q : Exit → Act → World → Prop} {a : Act} {w : World} {l : List Oper} (hm : P.follows .mixedOrders = true) (hB : Region.lexB .any l.toArray = true)
    (h : wpQuiet P l.toArray (fun w' => ∃ n : Later w, w' = n.at_) (fun a' => ∀ w', (∃ n : Later w, w' = n.at_) → Q .normal a' w') l a) : (Code.region id l.toArray true).wp P Q a w :=
  wp_region_quiet (C := fun w' => ∃ n : Later w, w' = n.at_) hm hB ⟨⟨w.drew, (Fr.refl _ w).drew⟩, rfl⟩ (by simpa using h)
end Go.Proofs.YtippdjaakcgeoaaGreat

namespace Go.Proofs.YtippdjaakcgeoaaGreat
open Go Go.RowKit

section
variable {w w' : World} {g g' : Nat} {t : TypeId} {cs cs' : Array Value} {S : Nat → Prop}
theorem Blk.row (h : Blk w g t cs) (cs' : Array Value) : Blk (w.setRow g cs') g t cs' := setRow_heap w g cs cs' t (0, 0) h
theorem Fr.setRow (h : Fr S w w') (hp : S g ∨ w.heap.size ≤ g) (cs : Array Value) : Fr S w (w'.setRow g cs) :=
  ⟨h.os, h.tape, h.output, by simpa [World.setRow] using h.size, fun i hi hn => (setRow_other w' g i cs (by
    rintro rfl
    rcases hp with hp | hp
    · exact hn hp
    · omega)).trans (h.block i hi hn)⟩
end
section
variable {P : Program}
/-- A struct out of a variable, and a value behind it. -/
theorem results_cell_tmp_row {fn : Func} {p q : Tmp} {ty : TypeId} (h : fn.results = #[.cell p ty, .tmp q]) (tmps : Array Value) (w : World) (g : Nat) (t : TypeId) (cs : Array Value) (fr : Nat × Nat) (d : TypeDesc) (v : Value)
    (hp : tmps.getD p undef = .pointer (some ⟨g, 0, none⟩)) (hq : tmps.getD q undef = v) (hg : w.heap[g]? = some (.cells cs t fr))
    (hu : P.underlying ty = some d) (hd : (match d with | .struct _ | .array _ _ => true | _ => false) = true) (hi : (P.info? ty).map (·.size) = some cs.size) :
    (results fn tmps).run P w = .ok (.tuple #[.agg cs, v]) w := by
  have hp' : tmps[p]?.getD undef = .pointer (some ⟨g, 0, none⟩) := by simpa using hp
  have hq' : tmps[q]?.getD undef = v := by simpa using hq
  simp [results, h, hp', hq', asAddr, run_loadVar_row w g t ty cs fr d hg hu hd hi]
end
end Go.Proofs.YtippdjaakcgeoaaGreat

namespace Go.Proofs.YtippdjaakcgeoaaGreat
open Go Go.RowKit

/-- Cells from place o on, others put there. -/
def putL : List Value → Nat → List Value → List Value
  | cs, 0, [] => cs
  | [], 0, _ :: _ => []
  | _ :: cs, 0, v :: vs => v :: putL cs 0 vs
  | [], _ + 1, _ => []
  | c :: cs, o + 1, vs => c :: putL cs o vs
theorem putL_nil (cs : List Value) (o : Nat) : putL cs o [] = cs := by
  induction cs generalizing o with
  | nil => cases o <;> rfl
  | cons c cs ih =>
    cases o with
    | zero => rfl
    | succ o => show c :: putL cs o [] = _; rw [ih]
theorem putL_cons (cs : List Value) (o : Nat) (v : Value) (vs : List Value) : putL cs o (v :: vs) = putL (cs.set o v) (o + 1) vs := by
  induction cs generalizing o with
  | nil => cases o <;> rfl
  | cons c cs ih =>
    cases o with
    | zero =>
      show v :: putL cs 0 vs = v :: putL cs 0 vs
      rfl
    | succ o =>
      show c :: putL cs o (v :: vs) = c :: putL (cs.set o v) (o + 1) vs
      rw [ih]
section
variable {w w' : World} {g : Nat} {t : TypeId} {l : List Value}
theorem Blk.setCells (h : Blk w g t l.toArray) (o : Nat) (vs : List Value) : Blk (w.setCells g o vs) g t (putL l o vs).toArray := by
  induction vs generalizing w o l with
  | nil => rw [putL_nil]; exact h
  | cons v vs ih =>
    rw [putL_cons]
    have h1 := h.set_ o v
    rw [List.setIfInBounds_toArray] at h1
    exact ih h1 (o + 1)
theorem Fr.set1 (f : Fr (· = g) w w') (k : Nat) (u : Value) : Fr (· = g) w (w'.setCell ⟨g, k, none⟩ u) := f.setCell (p := ⟨g, k, none⟩) (.inl rfl) u
theorem Fr.setCells (f : Fr (· = g) w w') (o : Nat) (vs : List Value) : Fr (· = g) w (w'.setCells g o vs) := by
  induction vs generalizing w' o with
  | nil => exact f
  | cons v vs ih => exact ih (f.set1 o v) (o + 1)
theorem Blk.there (h : Blk w g t l.toArray) (o n : Nat) (hn : o + n ≤ l.length) : w.there g o n := fun j hj => by
  have h1 := h.cell (o + j)
  have h2 := h.frozen (o + j)
  rw [h1]
  exact ⟨by simp; omega, h2⟩
theorem Blk.cells_at (h : Blk w g t l.toArray) (o : Nat) : ∀ p u, (l.drop o)[p]? = some u → w.cell? ⟨g, o + p, none⟩ = some u := fun p u hu => by
  rw [h.cell]
  simpa using hu
theorem Blk.cells_in (h : Blk w g t l.toArray) (o n : Nat) : ∀ p u, ((l.drop o).take n)[p]? = some u → w.cell? ⟨g, o + p, none⟩ = some u := fun p u hu => by
  refine h.cells_at o p u ?_
  rw [List.getElem?_take] at hu
  split at hu
  · exact hu
  · cases hu
end
end Go.Proofs.YtippdjaakcgeoaaGreat

namespace Go.Proofs.YtippdjaakcgeoaaGreat
open Go Go.RowKit

/-- The block that a list may write to: none where it has no room. -/
def hom (A : Option Addr) (c : Nat) : Option Addr := if c = 0 then none else A
theorem hom_pos (A : Option Addr) {c : Nat} (h : 0 < c) : hom A c = A := if_neg (by omega)
theorem hom_in {A : Option Addr} {c b : Nat} (h : inA (hom A c) b) : inA A b ∧ 0 < c := by
  unfold hom at h
  split at h
  · exact (inA_none _ h).elim
  · exact ⟨h, by omega⟩
theorem hom_zero (A : Option Addr) (b : Nat) : ¬ inA (hom A 0) b := fun h => by have := (hom_in h).2; omega
/-- A list of the call's own, or one without any room, wherever it lies. -/
def OwnC (w : World) (E : TypeId) (z : Nat) (A : Option Addr) (n cap : Nat) (cs : List Value) : Prop := (Own w E z A n cap cs ∧ 0 < cap) ∨ (n = 0 ∧ cap = 0 ∧ cs = [])
section
variable {w w' : World} {E E' : TypeId} {z z' n n' cap cap' : Nat} {A A' : Option Addr} {cs cs' : List Value} {S : Nat → Prop}
theorem Own.c (h : Own w E z A n cap cs) : OwnC w E z A n cap cs := by
  rcases Nat.eq_zero_or_pos cap with h0 | h0
  · have h1 := h.cap_le.1
    have h2 : n = 0 := by omega
    have h3 := h.1
    rw [h2, Nat.zero_mul] at h3
    exact .inr ⟨h2, h0, List.eq_nil_of_length_eq_zero h3⟩
  · exact .inl ⟨h, h0⟩
theorem OwnC.len (h : OwnC w E z A n cap cs) : cs.length = n * z := by
  rcases h with ⟨h, _⟩ | ⟨rfl, _, rfl⟩
  · exact h.1
  · simp
theorem OwnC.cap_le (h : OwnC w E z A n cap cs) : n ≤ cap ∧ cap ≤ maxLen := by
  rcases h with ⟨h, _⟩ | ⟨rfl, rfl, rfl⟩
  · exact h.cap_le
  · exact ⟨Nat.le_refl _, Nat.zero_le _⟩
theorem OwnC.fr (h : OwnC w E z A n cap cs) (hf : Fr S w w') (hn : ∀ k, inA (hom A cap) k → ¬ S k) : OwnC w' E z A n cap cs := by
  rcases h with ⟨h, h0⟩ | h
  · exact .inl ⟨h.fr hf (fun k hk => hn k (by rw [hom_pos A h0]; exact hk)), h0⟩
  · exact .inr h
theorem OwnC.nw (h : OwnC w E z A n cap cs) (hf : Nw w w') : OwnC w' E z A n cap cs := h.fr hf (fun _ _ h => h)
theorem OwnC.lt (h : OwnC w E z A n cap cs) : ∀ k, inA (hom A cap) k → k < w.heap.size := by
  intro k hk
  rcases h with ⟨h, h0⟩ | ⟨rfl, rfl, rfl⟩
  · exact h.lt k (hom_in hk).1
  · exact (hom_zero _ _ hk).elim
theorem OwnC.at_ (h : OwnC w E z A n cap cs) (h0 : 0 < cap) : ∃ g, A = some ⟨g, 0, none⟩ ∧ hom A cap = some ⟨g, 0, none⟩ ∧ Own w E z (some ⟨g, 0, none⟩) n cap cs := by
  rcases h with ⟨h, _⟩ | ⟨_, h1, _⟩
  · rcases h.2 with ⟨_, _, h2⟩ | ⟨g, cur, rfl, _⟩
    · omega
    · exact ⟨g, rfl, hom_pos _ h0, h⟩
  · omega
theorem OwnC.offB (h : OwnC w E z A n cap cs) {g : Nat} {t : TypeId} {bs : Array Value} (hb : Blk w g t bs) (hne : t ≠ E) : ¬ inA (hom A cap) g := by
  intro hk
  obtain ⟨_, h1⟩ := hom_in hk
  obtain ⟨g', rfl, e1, o1⟩ := h.at_ h1
  rw [e1] at hk
  exact o1.ne_ hb hne hk
theorem Own.storeL {g : Nat} (h : Own w E z (some ⟨g, 0, none⟩) n cap cs) (o : Nat) (vs : List Value) : Own (w.setCells g o vs) E z (some ⟨g, 0, none⟩) n cap (putL cs o vs) := by
  induction vs generalizing w o cs with
  | nil => rw [putL_nil]; exact h
  | cons v vs ih =>
    rw [putL_cons]
    exact ih (h.store o v) (o + 1)
theorem putL_len (cs : List Value) (o : Nat) (vs : List Value) : (putL cs o vs).length = cs.length := by
  induction vs generalizing o cs with
  | nil => rw [putL_nil]
  | cons v vs ih => rw [putL_cons, ih, List.length_set]
theorem putL_at (cs : List Value) (o : Nat) (vs : List Value) (h : o + vs.length ≤ cs.length) : putL cs o vs = cs.take o ++ (vs ++ cs.drop (o + vs.length)) := by
  induction vs generalizing o cs with
  | nil => rw [putL_nil]; simp
  | cons v vs ih =>
    simp only [List.length_cons] at h
    rw [putL_cons, ih _ _ (by rw [List.length_set]; omega), List.take_succ_eq_append_getElem (by rw [List.length_set]; omega)]
    simp only [List.getElem_set_self, List.length_cons, List.append_assoc, List.cons_append, List.nil_append]
    rw [List.take_set_of_le (Nat.le_refl _), List.drop_set_of_lt (by omega)]
    congr 4
    omega

/-- What an append leaves: it had room, or it grew. -/
def AppC (w : World) (E : TypeId) (z : Nat) (A : Option Addr) (n cap m : Nat) (cs news : List Value) (A' : Option Addr) (cap' : Nat) (w' : World) : Prop :=
  Own w' E z A' (n + m) cap' (cs ++ news) ∧ ((n + m ≤ cap ∧ A' = A ∧ cap' = cap ∧ Fr (inA (hom A cap)) w w') ∨ (cap < n + m ∧ A' = some ⟨w.heap.size, 0, none⟩ ∧ Nw w w'))
variable {P : Program} {F : Nat → Prop}
/-- 'append(s, x...)', something is appended. -/
theorem run_append_c (w : World) (t ty : TypeId) (bytes : Nat) (zv : Value) (ht : P.underlying t = some (.slice E))
    (hinfo : (P.info? E).map (fun i => (i.zero, i.size, i.bytes)) = some (some zv, z, bytes)) (hzs : zv.cells.size = z) (hsz : 0 < z)
    (hown : OwnC w E z A n cap cs) {A2 : Option Addr} {m c : Nat} {news : List Value} (hsl : Sl w F A2 news) (hl : news.length = m * z) (h1 : ∀ u ∈ news, u.oneCell' = true)
    (hbytes : (n + m) * bytes ≤ 140737488355328) (hmax : n + m ≤ maxLen) (hm : 0 < m) :
    ∃ A' cap' w', (Builtin.append_ #[t, t] ty #[.slice A n cap, .slice A2 m c]).run P w = .ok (.slice A' (n + m) cap') w' ∧ AppC w E z A n cap m cs news A' cap' w' := by
  rcases hown with ⟨hown, h0⟩ | ⟨rfl, rfl, rfl⟩
  · obtain ⟨A', cap', w', hr, h2, _, h3⟩ := run_append_two (P := P) w t ty bytes zv ht hinfo hzs hsz hown hsl hl h1 hbytes hmax (c := c)
    refine ⟨A', cap', w', hr, h2, ?_⟩
    rw [hom_pos A h0]
    exact h3
  · obtain ⟨i, hi, hz0, hz1, hz2⟩ := info_parts hinfo
    subst hz1
    subst hz2
    have hne : news ≠ [] := by
      rintro rfl
      have := Nat.mul_pos hm hsz
      simp at hl; omega
    obtain ⟨b, o, rfl, _, _, hc⟩ := hsl.at_ hne
    have hcells : ∀ j u, news[j]? = some u → w.cell? ((⟨b, o, none⟩ : Addr).add j) = some u := by
      intro j u hu
      rw [Addr.add_lit]
      exact hc j u hu
    have hsmall : 0 + m ≤ 9223372036854775807 := by simp only [maxLen] at hmax; omega
    have fin : ∀ old, (Builtin.append_ #[t, t] ty #[.slice A 0 0, .slice (some ⟨b, o, none⟩) m c]).run P w = .ok (.slice (some ⟨w.heap.size, 0, none⟩) (0 + m) (grownCap w (0 + m) old E))
          (w.drew.alloc (.cells (([] : List Value).toArray ++ news.toArray ++ Builtin.zeroCells zv.cells (grownCap w (0 + m) old E - (0 + m))) E)) →
        ∃ A' cap' w', (Builtin.append_ #[t, t] ty #[.slice A 0 0, .slice (some ⟨b, o, none⟩) m c]).run P w = .ok (.slice A' (0 + m) cap') w' ∧ AppC w E i.size A 0 0 m [] news A' cap' w' := by
      intro old hr
      have hge := grownCap_ge w (0 + m) old E
      have hcm : grownCap w (0 + m) old E ≤ maxLen := grownCap_le_maxLen w (0 + m) old E hmax
      refine ⟨_, _, _, hr, ⟨by simp [hl], .inr ⟨w.heap.size, _, rfl, heap_alloc_new w.drew _, hge, hcm, ?_, ?_⟩⟩, .inr ⟨by omega, rfl, ((Fr.refl _ w).drew).alloc _⟩⟩
      · simp only [Array.size_append, List.size_toArray, size_zeroCells, hzs, hl, List.length_nil, Nat.zero_add, ← Nat.add_mul]
        congr 1
        simp only [Nat.zero_add] at hge
        omega
      · simp only [Array.toList_append, List.nil_append, Nat.zero_add]
        rw [← hl]
        exact List.take_left
    cases A with
    | none =>
      refine fin 0 ?_
      have hr := run_append_nil (P := P) w t ty E i zv ht hi hz0 _ m c news hl hcells (by omega) (by omega) (by have hb := hbytes; simp only [Nat.zero_add] at hb; omega)
      simp only [Nat.zero_add, Array.empty_append] at hr ⊢
      exact hr
    | some a =>
      refine fin 0 ?_
      exact run_append_grow (P := P) w t ty E i zv ht hi hz0 a 0 0 [] (by simp) (by intro j u hu; simp at hu) _ m c news hl hcells (by omega) (by omega) (growslice_fits (by omega) hbytes)
/-- The walk over such an append. -/
theorem wl_appendC {w : World} {ops : Array Oper} {rest : List Oper} {o : Oper} {a : Act} {Q : Exit → Act → World → Prop} (hgd : o.guard = none) (s x : Operand) (t : TypeId)
    (ho : o.op = .call { callee := .builtin .append, args := #[s, x], argTypes := #[t, t] }) (bytes : Nat) (zv : Value) (ht : P.underlying t = some (.slice E))
    (hinfo : (P.info? E).map (fun i => (i.zero, i.size, i.bytes)) = some (some zv, z, bytes)) (hzs : zv.cells.size = z) (hsz : 0 < z)
    (hs : a.eval s = .slice A n cap) (hown : OwnC w E z A n cap cs) {A2 : Option Addr} {m c : Nat} {news : List Value} (hx : a.eval x = .slice A2 m c) (hsl : Sl w F A2 news) (hl : news.length = m * z) (h1 : ∀ u ∈ news, u.oneCell' = true)
    (hbytes : (n + m) * bytes ≤ 140737488355328) (hmax : n + m ≤ maxLen) (hm : 0 < m)
    (h : ∀ A' cap' w', AppC w E z A n cap m cs news A' cap' w' → wpList P ops Q rest (a.put o.dst (.slice A' (n + m) cap')) w') :
    wpList P ops Q (o :: rest) a w := by
  refine wpList_plain hgd fun K hK' => ?_
  obtain ⟨A', cap', w', hrun, h2⟩ := run_append_c (P := P) w t o.type bytes zv ht hinfo hzs hsz hown hsl hl h1 hbytes hmax hm (c := c)
  unfold Oper.wp execOp
  simp only [ho, resolve, invoke, builtin, Sem.run_bind, Sem.run_pure, Result.andThen_ok, List.map_toArray, List.map_cons, List.map_nil, hs, hx]
  rw [hrun]
  exact hK' _ _ (h A' cap' w' h2)
end

/-! What an append to a list of the call's own leaves. -/
theorem AppTo.newOwn {w0 w w' : World} {E : TypeId} {size n cap m : Nat} {A A' : Option Addr} {cap' : Nat} {cs news : List Value} (h : AppTo w E size A n cap m cs news A' cap' w') (hq : Nw w0 w) (hA : ∀ k, inA A k → w0.heap.size ≤ k) :
    Own w' E size A' (n + m) cap' (cs ++ news) ∧ Nw w0 w' ∧ (∀ k, inA A' k → w0.heap.size ≤ k) := by
  obtain ⟨ho2, _, hcase⟩ := h
  refine ⟨ho2, ?_, ?_⟩
  · rcases hcase with ⟨_, rfl, _, hf⟩ | ⟨_, rfl, hf⟩
    · exact hq.new hf hA
    · exact hq.tr hf
  · intro k hk
    rcases hcase with ⟨_, rfl, _, hf⟩ | ⟨_, rfl, hf⟩
    · exact hA k hk
    · rw [(inA_some _ _).1 hk]; exact hq.size

theorem AppTo.fr {w w' : World} {E : TypeId} {size n cap m : Nat} {A A' : Option Addr} {cap' : Nat} {cs news : List Value} (h : AppTo w E size A n cap m cs news A' cap' w') : Fr (inA A) w w' := by
  obtain ⟨_, _, ⟨_, _, _, hf⟩ | ⟨_, _, hf⟩⟩ := h
  · exact hf
  · exact Nw.on hf

theorem AppTo.inA_ {w w' : World} {E : TypeId} {size n cap m : Nat} {A A' : Option Addr} {cap' : Nat} {cs news : List Value} (h : AppTo w E size A n cap m cs news A' cap' w') : ∀ j, inA A' j → inA A j ∨ j = w.heap.size := by
  intro j hj
  rcases h.2.2 with ⟨_, rfl, _, _⟩ | ⟨_, rfl, _⟩
  · exact .inl hj
  · exact .inr ((inA_some _ _).1 hj)

/-! Marks: whatever they are, of z cells each. -/
def mksL (mk : Nat → Nat → List Value) (k n : Nat) : List Value := ((List.range n).map (mk k)).flatten
section
variable {mk : Nat → Nat → List Value} {z : Nat}
theorem mksL_len (hmk : ∀ k i, (mk k i).length = z) (k n : Nat) : (mksL mk k n).length = n * z := by
  unfold mksL
  induction n with
  | zero => simp
  | succ n ih => rw [List.range_succ, List.map_append, List.flatten_append, List.length_append, ih]; simp [hmk, Nat.succ_mul]
theorem mksL_succ (mk : Nat → Nat → List Value) (k n : Nat) : mksL mk k (n + 1) = mksL mk k n ++ mk k n := by
  unfold mksL
  rw [List.range_succ, List.map_append, List.flatten_append]
  simp
theorem mksL_take (hmk : ∀ k i, (mk k i).length = z) (k n i : Nat) (h : i ≤ n) : (mksL mk k n).take (i * z) = mksL mk k i := by
  induction n with
  | zero =>
    obtain rfl : i = 0 := by omega
    simp [mksL]
  | succ n ih =>
    rcases Nat.lt_or_ge i (n + 1) with h1 | h1
    · rw [mksL_succ, List.take_append_of_le_length (by rw [mksL_len hmk]; exact Nat.mul_le_mul_right _ (by omega))]
      exact ih (by omega)
    · obtain rfl : i = n + 1 := by omega
      rw [List.take_of_length_le (by rw [mksL_len hmk]; exact Nat.le_refl _)]
theorem mksL_at (hmk : ∀ k i, (mk k i).length = z) (k n i j : Nat) (h : i < n) (hj : j < z) : (mksL mk k n)[i * z + j]? = (mk k i)[j]? := by
  induction n with
  | zero => omega
  | succ n ih =>
    rw [mksL_succ]
    rcases Nat.lt_or_ge i n with h1 | h1
    · have h2 := Nat.mul_le_mul_right z (show i + 1 ≤ n from h1)
      rw [Nat.succ_mul] at h2
      rw [List.getElem?_append_left (by rw [mksL_len hmk]; omega)]
      exact ih h1
    · obtain rfl : i = n := by omega
      rw [List.getElem?_append_right (by rw [mksL_len hmk]; omega), mksL_len hmk]
      congr 1
      omega
end
end Go.Proofs.YtippdjaakcgeoaaGreat
