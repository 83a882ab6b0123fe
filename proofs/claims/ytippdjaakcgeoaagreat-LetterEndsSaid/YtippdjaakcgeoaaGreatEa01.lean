/- Lemmas of the walks: Mem, Wire, Le. (Laid together by shake.py.) -/
import Derived.WalkKit
import Derived.WalkLawsBesides
import Derived.WalkSpells
import Derived.Below
import Derived.Laws.OwnMore
import Derived.Maps.AppendAt
import Derived.Deep.AppendLies
import Derived.Deep.Draws
import Derived.Lib.Hide
set_option linter.unusedVariables false
set_option linter.unusedSimpArgs false
set_option maxRecDepth 100000
set_option maxHeartbeats 16000000
namespace Go.Proofs.YtippdjaakcgeoaaGreat
open Go Go.RowKit
theorem sA9 {α : Type _} {xs : List α} {i : Nat} {x : α} : xs.toArray.setIfInBounds i x = (xs.set i x).toArray := by simp
theorem sB9 {α : Type _} {x y : α} {xs : List α} : (x :: xs).set 0 y = y :: xs := rfl
theorem sC9 {α : Type _} {x y : α} {xs : List α} {i : Nat} : (x :: xs).set (i + 1) y = x :: xs.set i y := rfl
abbrev zL9A : Array Value := #[Value.int .u8 0, Value.int .i64 0, Value.int .i64 0, Value.int .i64 0, Value.int .i64 0, Value.int .i64 0, Value.int .i64 0, Value.int .i64 0, Value.bool false, Value.slice none 0 0, Value.int .i64 0, Value.int .i64 0, Value.slice none 0 0, Value.slice none 0 0, Value.slice none 0 0, Value.slice none 0 0, Value.int .i64 0, Value.int .i64 0, Value.int .i64 0, Value.slice none 0 0]
abbrev zL9L : List Value := [Value.int .u8 0, Value.int .i64 0, Value.int .i64 0, Value.int .i64 0, Value.int .i64 0, Value.int .i64 0, Value.int .i64 0, Value.int .i64 0, Value.bool false, Value.slice none 0 0, Value.int .i64 0, Value.int .i64 0, Value.slice none 0 0, Value.slice none 0 0, Value.slice none 0 0, Value.slice none 0 0, Value.int .i64 0, Value.int .i64 0, Value.int .i64 0, Value.slice none 0 0]
abbrev zE9A : Array Value := #[Value.int .i64 0, Value.int .u8 0, Value.slice none 0 0, Value.slice none 0 0, Value.slice none 0 0, Value.slice none 0 0, Value.slice none 0 0]
abbrev zE9L : List Value := [Value.int .i64 0, Value.int .u8 0, Value.slice none 0 0, Value.slice none 0 0, Value.slice none 0 0, Value.slice none 0 0, Value.slice none 0 0]
abbrev zB9A : Array Value := #[Value.int .i64 0, Value.int .i64 0, Value.slice none 0 0, Value.slice none 0 0, Value.slice none 0 0, Value.slice none 0 0]
abbrev zB9L : List Value := [Value.int .i64 0, Value.int .i64 0, Value.slice none 0 0, Value.slice none 0 0, Value.slice none 0 0, Value.slice none 0 0]
abbrev zC9A : Array Value := #[Value.slice none 0 0, Value.slice none 0 0, Value.slice none 0 0, Value.slice none 0 0]
abbrev zC9L : List Value := [Value.slice none 0 0, Value.slice none 0 0, Value.slice none 0 0, Value.slice none 0 0]
def Blk (w : World) (g : Nat) (t : TypeId) (cs : Array Value) : Prop := w.heap[g]? = some (.cells cs t (0, 0))
structure Fr (S : Nat → Prop) (w w' : World) : Prop where
 os : w'.os = w.os
 tape : w'.tape = w.tape
 output : w'.output = w.output
 size : w.heap.size ≤ w'.heap.size
 block : ∀ k, k < w.heap.size → ¬ S k → w'.heap[k]? = w.heap[k]?
section
variable {w w' w'' : World} {g : Nat} {t : TypeId} {cs : Array Value} {S S' : Nat → Prop}
theorem Blk.lt (h : Blk w g t cs) : g < w.heap.size := by
 rcases Nat.lt_or_ge g w.heap.size with hlt | hge
 ·exact hlt
 ·unfold Blk at h; rw [Array.getElem?_eq_none hge] at h; cases h
theorem Blk.cell (h : Blk w g t cs) (i : Nat) : w.cell? ⟨g, i, none⟩ = cs[i]? := cell_of_row w g i cs t (0, 0) h
theorem Blk.frozen (h : Blk w g t cs) (i : Nat) : w.frozen? ⟨g, i, none⟩ = false := by
 unfold Blk at h
 simp [World.frozen?, h]
theorem Blk.new (w : World) (t : TypeId) (cs : Array Value) : Blk (w.alloc (.cells cs t)) w.heap.size t cs := heap_alloc_new w _
theorem Blk.drew (h : Blk w g t cs) : Blk w.drew g t cs := h
theorem Blk.alloc (h : Blk w g t cs) (o : Obj) : Blk (w.alloc o) g t cs := (Below.heap_alloc w o g h.lt).trans h
theorem Blk.set_ (h : Blk w g t cs) (i : Nat) (u : Value) : Blk (w.setCell ⟨g, i, none⟩ u) g t (cs.setIfInBounds i u) := by
 unfold Blk at h ⊢
 simp [World.setCell, Array.getElem?_modify, h]
theorem Blk.far (h : Blk w g t cs) {p : Addr} (hp : g ≠ p.block) (u : Value) : Blk (w.setCell p u) g t cs := (Below.heap_setCell w p u g hp).trans h
theorem Blk.fr (h : Blk w g t cs) (hf : Fr S w w') (hg : ¬ S g) : Blk w' g t cs := (hf.block g h.lt hg).trans h
theorem Blk.inj {t' : TypeId} {cs' : Array Value} (h : Blk w g t cs) (h' : Blk w g t' cs') : t = t' ∧ cs = cs' := by
 unfold Blk at h h'
 rw [h] at h'
 injection h' with h'
 injection h' with h1 h2
 exact ⟨h2, h1⟩
theorem Blk.ne_ {g' : Nat} {t' : TypeId} {cs' : Array Value} (h : Blk w g t cs) (h' : Blk w g' t' cs') (hne : t ≠ t') : g ≠ g' := by
 rintro rfl
 exact hne (h.inj h').1
theorem Fr.refl (S : Nat → Prop) (w : World) : Fr S w w := ⟨rfl, rfl, rfl, Nat.le_refl _, fun _ _ _ => rfl⟩
theorem Fr.trans (h : Fr S w w') (k : Fr S' w' w'') (hs : ∀ b, S' b → S b ∨ w.heap.size ≤ b) : Fr S w w'' :=
 ⟨k.os.trans h.os, k.tape.trans h.tape, k.output.trans h.output, Nat.le_trans h.size k.size, fun i hi hn =>
  (k.block i (Nat.lt_of_lt_of_le hi h.size) (fun hb => (hs i hb).elim hn (fun hh => by omega))).trans (h.block i hi hn)⟩
theorem Fr.mono (h : Fr S w w') (hs : ∀ b, S b → S' b ∨ w.heap.size ≤ b) : Fr S' w w' :=
 ⟨h.os, h.tape, h.output, h.size, fun i hi hn => h.block i hi (fun hb => (hs i hb).elim hn (fun hh => by omega))⟩
theorem Fr.tr (h : Fr S w w') (k : Fr S w' w'') : Fr S w w'' := h.trans k fun _ hb => .inl hb
theorem Fr.drew (h : Fr S w w') : Fr S w w'.drew := ⟨h.os, h.tape, h.output, h.size, h.block⟩
theorem Fr.drewN (h : Fr S w w') (n : Nat) : Fr S w (w'.drewN n) := ⟨h.os, h.tape, h.output, h.size, h.block⟩
theorem Fr.alloc (h : Fr S w w') (o : Obj) : Fr S w (w'.alloc o) :=
 ⟨h.os, h.tape, h.output, Nat.le_trans h.size (by simp), fun i hi hn => (Below.heap_alloc w' o i (Nat.lt_of_lt_of_le hi h.size)).trans (h.block i hi hn)⟩
theorem Fr.setCell (h : Fr S w w') {p : Addr} (hp : S p.block ∨ w.heap.size ≤ p.block) (u : Value) : Fr S w (w'.setCell p u) :=
 ⟨h.os, h.tape, h.output, by simpa [World.setCell] using h.size, fun i hi hn => (Below.heap_setCell w' p u i (by
  rintro rfl
  rcases hp with hp | hp
  ·exact hn hp
  ·omega)).trans (h.block i hi hn)⟩
theorem Fr.below {B : Nat} (h : Fr S w w') (hs : ∀ k, S k → B ≤ k) (hB : B ≤ w.heap.size) : Below B w w' :=
 ⟨h.os, h.tape, h.output, h.size, fun i hi => h.block i (by omega) (fun hb => by have := hs i hb; omega)⟩
theorem Fr.cell (h : Fr S w w') {p : Addr} (hp : p.block < w.heap.size) (hn : ¬ S p.block) : w'.cell? p = w.cell? p := World.cell?_of_block (w := w) (h.block p.block hp hn)
abbrev Nw (w w' : World) : Prop := Fr (fun _ => False) w w'
theorem Fr.new (h : Nw w w') (k : Fr S w' w'') (hs : ∀ b, S b → w.heap.size ≤ b) : Nw w w'' := h.trans k fun b hb => .inr (hs b hb)
theorem Nw.on (h : Nw w w') : Fr S w w' := h.mono fun _ h => h.elim
def Sl (w : World) (F : Nat → Prop) (A : Option Addr) (cs : List Value) : Prop :=
 cs = [] ∨ ∃ b o, A = some ⟨b, o, none⟩ ∧ F b ∧ b < w.heap.size ∧ ∀ j u, cs[j]? = some u → w.cell? ⟨b, o + j, none⟩ = some u
variable {F F' : Nat → Prop} {A : Option Addr} {xs : List Value}
theorem Sl.nil (w : World) (F : Nat → Prop) (A : Option Addr) : Sl w F A [] := .inl rfl
theorem Sl.at_ (h : Sl w F A xs) (hne : xs ≠ []) : ∃ b o, A = some ⟨b, o, none⟩ ∧ F b ∧ b < w.heap.size ∧ ∀ j u, xs[j]? = some u → w.cell? ⟨b, o + j, none⟩ = some u := h.resolve_left hne
theorem Sl.fr (h : Sl w F A xs) (hf : Fr S w w') (hn : ∀ b, F b → ¬ S b) : Sl w' F A xs := by
 rcases h with h | ⟨b, o, hA, hF, hb, hc⟩
 ·exact .inl h
 ·exact .inr ⟨b, o, hA, hF, Nat.lt_of_lt_of_le hb hf.size, fun j u hu => (hf.cell hb (hn b hF)).trans (hc j u hu)⟩
theorem Sl.mono (h : Sl w F A xs) (hF : ∀ b, F b → b < w.heap.size → F' b) : Sl w F' A xs := by
 rcases h with h | ⟨b, o, hA, hFb, hb, hc⟩
 ·exact .inl h
 ·exact .inr ⟨b, o, hA, hF b hFb hb, hb, hc⟩
def cutA (A : Option Addr) (m l s : Nat) : Option Addr := if m = l then A else A.map (·.add (l * s))
theorem Sl.cut {n m s l k : Nat} (h : Sl w F A xs) (hl : xs.length = n * s) (hk : k ≤ n) (hm : n ≤ m) (hlk : l ≤ k) : Sl w F (cutA A m l s) ((xs.drop (l * s)).take ((k - l) * s)) := by
 by_cases he : (xs.drop (l * s)).take ((k - l) * s) = []
 ·exact .inl he
 have hne : xs ≠ [] := by rintro rfl; simp at he
 have hlt : ¬ m = l := by
  intro e
  have : k - l = 0 := by omega
  rw [this] at he
  simp at he
 obtain ⟨b, o, rfl, hF, hb, hc⟩ := h.at_ hne
 refine .inr ⟨b, o + l * s, ?_, hF, hb, fun j u hu => ?_⟩
 ·simp only [cutA, if_neg hlt, Option.map_some, Addr.add_lit]
 ·rw [List.getElem?_take] at hu
  split at hu
  ·rw [List.getElem?_drop] at hu
   rw [Nat.add_assoc]
   exact hc _ u hu
  ·cases hu
theorem Sl.drop {n m s l : Nat} (h : Sl w F A xs) (hl : xs.length = n * s) (hm : n ≤ m) (hln : l ≤ n) : Sl w F (cutA A m l s) (xs.drop (l * s)) := by
 have := h.cut (k := n) hl (Nat.le_refl _) hm hln
 rwa [List.take_of_length_le (by rw [List.length_drop, hl, Nat.sub_mul]; exact Nat.le_refl _)] at this
theorem zhx (A : Option Addr) (m s : Nat) : cutA A m 0 s = A := by
 unfold cutA
 split
 ·rfl
 ·cases A <;> simp [Addr.add]
theorem Sl.pre {k : Nat} (h : Sl w F A xs) : Sl w F A (xs.take k) := by
 rcases h with rfl | ⟨b, o, hA, hF, hb, hc⟩
 ·exact .inl (by simp)
 ·refine .inr ⟨b, o, hA, hF, hb, fun j u hu => hc j u ?_⟩
  rw [List.getElem?_take] at hu
  split at hu
  ·exact hu
  ·cases hu
theorem Blk.sl (h : Blk w g t cs) (o : Nat) (k : Nat) : Sl w (· = g) (some ⟨g, o, none⟩) ((cs.toList.drop o).take k) := by
 refine .inr ⟨g, o, rfl, rfl, h.lt, fun j u hu => ?_⟩
 rw [h.cell, ← Array.getElem?_toList]
 rw [List.getElem?_take] at hu
 split at hu
 ·rwa [List.getElem?_drop] at hu
 ·cases hu
end
def inA (A : Option Addr) (k : Nat) : Prop := ∃ a, A = some a ∧ a.block = k
theorem zaH (k : Nat) : ¬ inA none k := by rintro ⟨a, h, _⟩; cases h
theorem za9 (a : Addr) (k : Nat) : inA (some a) k ↔ k = a.block := by
 constructor
 ·rintro ⟨_, h, rfl⟩; injection h with h; rw [h]
 ·rintro rfl; exact ⟨_, rfl, rfl⟩
def Own (w : World) (E : TypeId) (size : Nat) (A : Option Addr) (n cap : Nat) (cs : List Value) : Prop :=
 cs.length = n * size ∧ ((A = none ∧ n = 0 ∧ cap = 0) ∨
  ∃ g cur, A = some ⟨g, 0, none⟩ ∧ Blk w g E cur ∧ n ≤ cap ∧ cap ≤ maxLen ∧ cur.size = cap * size ∧ cur.toList.take (n * size) = cs)
section
variable {w w' : World} {E : TypeId} {size n cap : Nat} {A : Option Addr} {cs : List Value} {S F : Nat → Prop}
theorem Own.nil (w : World) (E : TypeId) (size : Nat) : Own w E size none 0 0 [] := ⟨by simp, .inl ⟨rfl, rfl, rfl⟩⟩
theorem Own.fr (h : Own w E size A n cap cs) (hf : Fr S w w') (hn : ∀ k, inA A k → ¬ S k) : Own w' E size A n cap cs := by
 refine ⟨h.1, ?_⟩
 rcases h.2 with h2 | ⟨g, cur, rfl, hb, r⟩
 ·exact .inl h2
 ·exact .inr ⟨g, cur, rfl, hb.fr hf (hn g ((za9 _ _).2 rfl)), r⟩
theorem Own.sl (h : Own w E size A n cap cs) : Sl w (inA A) A cs := by
 rcases h.2 with ⟨_, rfl, _⟩ | ⟨g, cur, rfl, hb, _, _, _, rfl⟩
 ·exact .inl (List.eq_nil_of_length_eq_zero (by simpa using h.1))
 ·have := hb.sl 0 (n * size)
  rw [List.drop_zero] at this
  exact this.mono fun b hb' _ => (za9 _ _).2 hb'
theorem Own.lt (h : Own w E size A n cap cs) : ∀ k, inA A k → k < w.heap.size := by
 intro k hk
 rcases h.2 with ⟨rfl, _⟩ | ⟨g, cur, rfl, hb, _⟩
 ·exact (zaH _ hk).elim
 ·rw [(za9 _ _).1 hk]; exact hb.lt
theorem Own.ne_ {g : Nat} {t : TypeId} {bs : Array Value} (h : Own w E size A n cap cs) (hb : Blk w g t bs) (hne : t ≠ E) : ¬ inA A g := by
 intro hk
 rcases h.2 with ⟨rfl, _⟩ | ⟨g', cur, rfl, hb', _⟩
 ·exact zaH _ hk
 ·have := (za9 _ _).1 hk
  subst this
  exact hne (hb.inj hb').1
theorem Own.cap_le (h : Own w E size A n cap cs) : n ≤ cap ∧ cap ≤ maxLen := by
 rcases h.2 with ⟨_, rfl, rfl⟩ | ⟨g, cur, rfl, hb, h1, h2, _⟩
 ·exact ⟨Nat.le_refl _, Nat.zero_le _⟩
 ·exact ⟨h1, h2⟩
theorem Own.alloc (h : Own w E size A n cap cs) (o : Obj) : Own (w.alloc o) E size A n cap cs :=
 h.fr (S := fun _ => False) ((Fr.refl _ w).alloc o) (fun _ _ h => h)
theorem Own.setCell (h : Own w E size A n cap cs) {p : Addr} (hp : ¬ inA A p.block) (u : Value) : Own (w.setCell p u) E size A n cap cs :=
 h.fr (S := (· = p.block)) ((Fr.refl (· = p.block) w).setCell (.inl rfl) u) (fun k hk (e : k = p.block) => hp (e ▸ hk))
theorem Sl.setCell {F : Nat → Prop} {xs : List Value} (h : Sl w F A xs) {p : Addr} (hp : ¬ F p.block) (u : Value) : Sl (w.setCell p u) F A xs :=
 h.fr (S := (· = p.block)) ((Fr.refl (· = p.block) w).setCell (.inl rfl) u) (fun k hk (e : k = p.block) => hp (e ▸ hk))
theorem Sl.alloc {F : Nat → Prop} {xs : List Value} (h : Sl w F A xs) (o : Obj) : Sl (w.alloc o) F A xs :=
 h.fr (S := fun _ => False) ((Fr.refl _ w).alloc o) (fun _ _ h => h)
theorem Own.new (w : World) (E : TypeId) (size n cap : Nat) (cur : Array Value) (hc : n ≤ cap) (hm : cap ≤ maxLen) (hs : cur.size = cap * size) :
  Own (w.alloc (.cells cur E)) E size (some ⟨w.heap.size, 0, none⟩) n cap (cur.toList.take (n * size)) := by
 refine ⟨?_, .inr ⟨w.heap.size, cur, rfl, Blk.new w E cur, hc, hm, hs, rfl⟩⟩
 rw [List.length_take, Array.length_toList, hs]
 exact Nat.min_eq_left (Nat.mul_le_mul_right _ hc)
theorem zeu {v : Value} (h : w.ownsRow 0 E size v n cs) : ∃ A cap, v = .slice A n cap ∧ Own w E size A n cap cs := by
 rcases h.2 with ⟨rfl, rfl⟩ | ⟨g, cap, cur, rfl, _, hb, r⟩
 ·exact ⟨none, 0, rfl, h.1, .inl ⟨rfl, rfl, rfl⟩⟩
 ·exact ⟨some ⟨g, 0, none⟩, cap, rfl, h.1, .inr ⟨g, cur, rfl, hb, r⟩⟩
variable {P : Program}
def zaM (w : World) (E : TypeId) (size : Nat) (A : Option Addr) (n cap m : Nat) (cs news : List Value) (A' : Option Addr) (cap' : Nat) (w' : World) : Prop :=
 Own w' E size A' (n + m) cap' (cs ++ news) ∧ Own w' E size A n cap cs ∧
  ((n + m ≤ cap ∧ A' = A ∧ cap' = cap ∧ Fr (inA A) w w') ∨ (cap < n + m ∧ A' = some ⟨w.heap.size, 0, none⟩ ∧ Nw w w'))
theorem zbG (w : World) (t ty : TypeId) (bytes : Nat) (z : Value) (ht : P.underlying t = some (.slice E))
  (hinfo : (P.info? E).map (fun i => (i.zero, i.size, i.bytes)) = some (some z, size, bytes)) (hzs : z.cells.size = size) (hsz : 0 < size)
  (hown : Own w E size A n cap cs) {A2 : Option Addr} {m c : Nat} {news : List Value} (hsl : Sl w F A2 news) (hl : news.length = m * size) (h1 : ∀ u ∈ news, u.oneCell' = true)
  (hbytes : (n + m) * bytes ≤ 140737488355328) (hmax : n + m ≤ maxLen) :
  ∃ A' cap' w', (Builtin.append_ #[t, t] ty #[.slice A n cap, .slice A2 m c]).run P w = .ok (.slice A' (n + m) cap') w' ∧ zaM w E size A n cap m cs news A' cap' w' := by
 obtain ⟨i, hi, hz0, hz1, hz2⟩ := info_parts hinfo
 subst hz1
 subst hz2
 have hsmall : n + m ≤ 9223372036854775807 := by simp only [maxLen] at hmax; omega
 have hlen : (cs ++ news).length = (n + m) * i.size := by rw [List.length_append, hown.1, hl, Nat.add_mul]
 have hcap := hown.cap_le
 by_cases hm0 : m = 0
 ·subst hm0
  have hn : news = [] := List.eq_nil_of_length_eq_zero (by simpa using hl)
  subst hn
  have hrun : (Builtin.append_ #[t, t] ty #[.slice A n cap, .slice A2 0 c]).run P w = .ok (.slice A n cap) w := by
   rcases hown.2 with ⟨rfl, rfl, rfl⟩ | ⟨g, cur, rfl, _, hnc, _⟩
   ·cases A2 <;> simp [Builtin.append_, run_underlying ht, sizeOf, typeInfo, hi, Builtin.lenOf, Builtin.firstCells, loadCells, loadCellsFrom]
   ·cases A2 <;> simp [Builtin.append_, run_underlying ht, sizeOf, typeInfo, hi, Builtin.lenOf, Builtin.firstCells, hnc, storeCells, loadCells, loadCellsFrom]
  exact ⟨A, cap, w, by simpa using hrun, by simpa using hown, hown, .inl ⟨by omega, rfl, rfl, Fr.refl _ _⟩⟩
 ·have hne : news ≠ [] := by
   rintro rfl
   have := Nat.mul_pos (Nat.pos_of_ne_zero hm0) hsz
   simp at hl; omega
  obtain ⟨b, o, rfl, _, _, hc⟩ := hsl.at_ hne
  have hcells : ∀ j u, news[j]? = some u → w.cell? ((⟨b, o, none⟩ : Addr).add j) = some u := by
   intro j u hu
   rw [Addr.add_lit]
   exact hc j u hu
  by_cases hroom : n + m ≤ cap
  ·rcases hown.2 with ⟨rfl, rfl, rfl⟩ | ⟨g, cur, rfl, hg, hnc, hcm, hcs, htake⟩
   ·omega
   ·have hfit : n * i.size + news.length ≤ cur.size := by rw [hl, hcs, ← Nat.add_mul]; exact Nat.mul_le_mul_right _ hroom
    have hr := run_append_room (P := P) w t ty E i ht hi g n cap cur hg _ m c news hl hcells h1 hroom hfit
    have hnew : Blk (w.setRow g (cur.toList.take (n * i.size) ++ news ++ cur.toList.drop (n * i.size + news.length)).toArray) g E (cur.toList.take (n * i.size) ++ news ++ cur.toList.drop (n * i.size + news.length)).toArray := setRow_heap w g cur _ E _ hg
    have hnl : (cur.toList.take (n * i.size)).length = n * i.size := by rw [htake]; exact hown.1
    have hsz2 : (cur.toList.take (n * i.size) ++ news ++ cur.toList.drop (n * i.size + news.length)).toArray.size = cap * i.size := by
     simp only [List.size_toArray, List.length_append, List.length_take, List.length_drop, Array.length_toList]
     omega
    refine ⟨_, _, _, hr, ⟨hlen, .inr ⟨g, _, rfl, hnew, hroom, hcm, hsz2, ?_⟩⟩, ⟨hown.1, .inr ⟨g, _, rfl, hnew, hnc, hcm, hsz2, ?_⟩⟩, .inl ⟨hroom, rfl, rfl, ?_⟩⟩
    ·rw [htake, ← hlen]
     exact List.take_left
    ·rw [htake, List.append_assoc]
     have := hown.1
     rw [← this]
     exact List.take_left
    ·exact ⟨rfl, rfl, rfl, by simp, fun k _ hk => setRow_other w g k _ (fun e => hk ((za9 _ _).2 e))⟩
  ·have hlt : cap < n + m := by omega
   have fin : ∀ old, (Builtin.append_ #[t, t] ty #[.slice A n cap, .slice (some ⟨b, o, none⟩) m c]).run P w = .ok (.slice (some ⟨w.heap.size, 0, none⟩) (n + m) (grownCap w (n + m) old E))
      (w.drew.alloc (.cells (cs.toArray ++ news.toArray ++ Builtin.zeroCells z.cells (grownCap w (n + m) old E - (n + m))) E)) →
     ∃ A' cap' w', (Builtin.append_ #[t, t] ty #[.slice A n cap, .slice (some ⟨b, o, none⟩) m c]).run P w = .ok (.slice A' (n + m) cap') w' ∧ zaM w E i.size A n cap m cs news A' cap' w' := by
    intro old hr
    have hge := grownCap_ge w (n + m) old E
    have hcm : grownCap w (n + m) old E ≤ maxLen := grownCap_le_maxLen w (n + m) old E hmax
    refine ⟨_, _, _, hr, ⟨hlen, .inr ⟨w.heap.size, _, rfl, heap_alloc_new w.drew _, hge, hcm, ?_, ?_⟩⟩, ?_, .inr ⟨hlt, rfl, ((Fr.refl _ w).drew).alloc _⟩⟩
    ·simp only [Array.size_append, List.size_toArray, size_zeroCells, hzs, hown.1, hl, ← Nat.add_mul]
     congr 1
     omega
    ·simp only [Array.toList_append, List.append_assoc]
     rw [← List.append_assoc, ← hlen]
     exact List.take_left
    ·exact hown.fr (S := fun _ => False) (((Fr.refl _ w).drew).alloc _) (fun _ _ h => h)
   rcases hown.2 with ⟨rfl, rfl, rfl⟩ | ⟨g, cur, rfl, hg, hnc, hcm, hcs, htake⟩
   ·have hx : cs = [] := List.eq_nil_of_length_eq_zero (by simpa using hown.1)
    subst hx
    refine fin 0 ?_
    have hr := run_append_nil (P := P) w t ty E i z ht hi hz0 _ m c news hl hcells (by omega) (by omega) (by have hb := hbytes; simp only [Nat.zero_add] at hb; omega)
    simp only [Nat.zero_add, Array.empty_append] at hr ⊢
    exact hr
   ·refine fin cap ?_
    have holds : ∀ j u, cs[j]? = some u → w.cell? ((⟨g, 0, none⟩ : Addr).add j) = some u := by
     intro j u hu
     rcases hown.sl with h | ⟨b', o', h, _, _, hc'⟩
     ·subst h; simp at hu
     ·injection h with h
      injection h with h1 h2
      subst h1; subst h2
      rw [Addr.add_lit]
      exact hc' j u hu
    exact run_append_grow (P := P) w t ty E i z ht hi hz0 ⟨g, 0, none⟩ n cap cs hown.1 holds _ m c news hl hcells (by omega) (by omega) (growslice_fits (by omega) hbytes)
theorem zhK (w : World) (t ty : TypeId) (bytes : Nat) (z : Value) (ht : P.underlying t = some (.slice E))
  (hinfo : (P.info? E).map (fun i => (i.zero, i.size, i.bytes)) = some (some z, size, bytes)) (hzs : z.cells.size = size) (hsz : 0 < size)
  (hown : Own w E size A n cap cs) {A2 : Option Addr} {m c : Nat} {news : List Value} (hsl : Sl w F A2 news) (hl : news.length = m * size) (h1 : ∀ u ∈ news, u.oneCell' = true)
  (hbytes : (n + m) * bytes ≤ 140737488355328) (hmax : n + m ≤ maxLen) :
  ∃ A' cap' w', (Builtin.append_ #[t, t] ty #[.slice A n cap, .slice A2 m c]).run P w = .ok (.slice A' (n + m) cap') w' ∧ Own w' E size A' (n + m) cap' (cs ++ news) ∧ Fr (inA A) w w' ∧
   (∀ k, inA A' k → inA A k ∨ k = w.heap.size) := by
 obtain ⟨A', cap', w', hrun, h2, _, h3⟩ := zbG (P := P) w t ty bytes z ht hinfo hzs hsz hown hsl hl h1 hbytes hmax (c := c)
 refine ⟨A', cap', w', hrun, h2, ?_⟩
 rcases h3 with ⟨_, rfl, rfl, hf⟩ | ⟨_, rfl, hf⟩
 ·exact ⟨hf, fun k hk => .inl hk⟩
 ·exact ⟨Nw.on hf, fun k hk => .inr ((za9 _ _).1 hk)⟩
theorem zdm {w : World} {ops : Array Oper} {rest : List Oper} {o : Oper} {a : Act} {Q : Exit → Act → World → Prop} (hgd : o.guard = none) (s x : Operand) (t : TypeId)
  (ho : o.op = .call { callee := .builtin .append, args := #[s, x], argTypes := #[t, t] }) (bytes : Nat) (z : Value) (ht : P.underlying t = some (.slice E))
  (hinfo : (P.info? E).map (fun i => (i.zero, i.size, i.bytes)) = some (some z, size, bytes)) (hzs : z.cells.size = size) (hsz : 0 < size)
  (hs : a.eval s = .slice A n cap) (hown : Own w E size A n cap cs) {A2 : Option Addr} {m c : Nat} {news : List Value} (hx : a.eval x = .slice A2 m c) (hsl : Sl w F A2 news) (hl : news.length = m * size) (h1 : ∀ u ∈ news, u.oneCell' = true)
  (hbytes : (n + m) * bytes ≤ 140737488355328) (hmax : n + m ≤ maxLen)
  (h : ∀ A' cap' w', Own w' E size A' (n + m) cap' (cs ++ news) → Fr (inA A) w w' → (∀ k, inA A' k → inA A k ∨ k = w.heap.size) → wpList P ops Q rest (a.put o.dst (.slice A' (n + m) cap')) w') :
  wpList P ops Q (o :: rest) a w := by
 refine wpList_plain hgd fun K hK' => ?_
 obtain ⟨A', cap', w', hrun, h2, h3, h4⟩ := zhK (P := P) w t o.type bytes z ht hinfo hzs hsz hown hsl hl h1 hbytes hmax
 unfold Oper.wp execOp
 simp only [ho, resolve, invoke, builtin, Sem.run_bind, Sem.run_pure, Result.andThen_ok, List.map_toArray, List.map_cons, List.map_nil, hs, hx]
 rw [hrun]
 exact hK' _ _ (h A' cap' w' h2 h3 h4)
theorem zay {w : World} {ops : Array Oper} {rest : List Oper} {o : Oper} {a : Act} {Q : Exit → Act → World → Prop} (hgd : o.guard = none) (s x : Operand) (t : TypeId)
  (ho : o.op = .call { callee := .builtin .append, args := #[s, x], argTypes := #[t, t] }) (bytes : Nat) (z : Value) (ht : P.underlying t = some (.slice E))
  (hinfo : (P.info? E).map (fun i => (i.zero, i.size, i.bytes)) = some (some z, size, bytes)) (hzs : z.cells.size = size) (hsz : 0 < size)
  (hs : a.eval s = .slice A n cap) (hown : Own w E size A n cap cs) {A2 : Option Addr} {m c : Nat} {news : List Value} (hx : a.eval x = .slice A2 m c) (hsl : Sl w F A2 news) (hl : news.length = m * size) (h1 : ∀ u ∈ news, u.oneCell' = true)
  (hbytes : (n + m) * bytes ≤ 140737488355328) (hmax : n + m ≤ maxLen)
  (h : ∀ A' cap' w', zaM w E size A n cap m cs news A' cap' w' → wpList P ops Q rest (a.put o.dst (.slice A' (n + m) cap')) w') :
  wpList P ops Q (o :: rest) a w := by
 refine wpList_plain hgd fun K hK' => ?_
 obtain ⟨A', cap', w', hrun, h2⟩ := zbG (P := P) w t o.type bytes z ht hinfo hzs hsz hown hsl hl h1 hbytes hmax (c := c)
 unfold Oper.wp execOp
 simp only [ho, resolve, invoke, builtin, Sem.run_bind, Sem.run_pure, Result.andThen_ok, List.map_toArray, List.map_cons, List.map_nil, hs, hx]
 rw [hrun]
 exact hK' _ _ (h A' cap' w' h2)
end
section
variable {P : Program} {w : World} {E : TypeId} {size : Nat}
theorem zeX {ops : Array Oper} {rest : List Oper} {o : Oper} {a : Act} {Q : Exit → Act → World → Prop} (hgd : o.guard = none) (l c : Operand) (t : TypeId) (hop : o.op = Op.makeSlice t l c) (bytes : Nat) (z : Value)
  (ht : P.underlying t = some (.slice E)) (hinfo : (P.info? E).map (fun i => (i.zero, i.size, i.bytes)) = some (some z, size, bytes)) (kl kc : IntKind) (C : Int) (n : Nat) (hl : a.eval l = .int kl 0) (hc : a.eval c = .int kc C) (hC : C = (n : Int))
  (hb : bytes * n ≤ 281474976710656) (hm : n ≤ maxLen)
  (h : ∀ w', Own w' E size (some ⟨w.heap.size, 0, none⟩) 0 n [] → Nw w w' → wpList P ops Q rest (a.put o.dst (.slice (some ⟨w.heap.size, 0, none⟩) 0 n)) w') : wpList P ops Q (o :: rest) a w := by
 obtain ⟨i, hi, hz0, hz1, hz2⟩ := info_parts hinfo
 subst hz2
 refine wpList_make_own w hgd l c t hop 0 E i z size ht hi hz0 hz1 kl kc C n hl hc hC hb hm (Nat.zero_le _) fun w' r1 r2 => ?_
 obtain ⟨A, cap, he, ho⟩ := zeu r1
 injection he with he1 he2 he3
 subst he1; subst he3
 exact h w' ho ⟨r2.os, r2.tape, r2.output, r2.size, fun k hk _ => r2.block k hk (by simp)⟩
theorem ze6 {ops : Array Oper} {rest : List Oper} {o : Oper} {a : Act} {Q : Exit → Act → World → Prop} (hgd : o.guard = none) (l c : Operand) (t : TypeId) (hop : o.op = Op.makeSlice t l c) (bytes : Nat) (z : Value)
  (ht : P.underlying t = some (.slice E)) (hinfo : (P.info? E).map (fun i => (i.zero, i.size, i.bytes)) = some (some z, 1, bytes)) (hz1c : z.cells = #[z]) (kl kc : IntKind) (C1 C2 : Int) (n : Nat) (hl : a.eval l = .int kl C1) (hc : a.eval c = .int kc C2) (hC1 : C1 = (n : Int)) (hC2 : C2 = (n : Int))
  (hb : bytes * n ≤ 281474976710656) (hm : n ≤ maxLen)
  (h : ∀ w', Own w' E 1 (some ⟨w.heap.size, 0, none⟩) n n (List.replicate n z) → Nw w w' → wpList P ops Q rest (a.put o.dst (.slice (some ⟨w.heap.size, 0, none⟩) n n)) w') : wpList P ops Q (o :: rest) a w := by
 obtain ⟨i, hi, hz0, hz1, hz2⟩ := info_parts hinfo
 subst hz2
 refine wpList_make_full w hgd l c t hop 0 E i z 1 ht hi hz0 hz1 kl kc C1 C2 n hl hc hC1 hC2 hb hm (Nat.zero_le _) fun w' r1 r2 => ?_
 obtain ⟨A, cap, he, ho⟩ := zeu r1
 injection he with he1 he2 he3
 subst he1; subst he3
 rw [hz1c, Nat.mul_one, toList_madeCells_one] at ho
 exact h w' ho ⟨r2.os, r2.tape, r2.output, r2.size, fun k hk _ => r2.block k hk (by simp)⟩
end
section
variable {w : World} {E : TypeId} {size n cap : Nat} {g : Nat} {cs : List Value}
theorem Own.blk (h : Own w E size (some ⟨g, 0, none⟩) n cap cs) : ∃ cur, Blk w g E cur ∧ n ≤ cap ∧ cap ≤ maxLen ∧ cur.size = cap * size ∧ cur.toList.take (n * size) = cs := by
 rcases h.2 with ⟨h, _⟩ | ⟨g', cur, h, r⟩
 ·cases h
 ·injection h with h; injection h with h; subst h; exact ⟨cur, r⟩
theorem Own.cellAt (h : Own w E size (some ⟨g, 0, none⟩) n cap cs) {k : Nat} (hk : k < n * size) : w.cell? ⟨g, k, none⟩ = cs[k]? := by
 obtain ⟨cur, hb, _, _, _, rfl⟩ := h.blk
 rw [hb.cell, List.getElem?_take, if_pos hk, Array.getElem?_toList]
theorem Own.frozenAt (h : Own w E size (some ⟨g, 0, none⟩) n cap cs) (k : Nat) : w.frozen? ⟨g, k, none⟩ = false := by
 obtain ⟨cur, hb, _⟩ := h.blk
 exact hb.frozen k
theorem Own.store (h : Own w E size (some ⟨g, 0, none⟩) n cap cs) (k : Nat) (u : Value) : Own (w.setCell ⟨g, k, none⟩ u) E size (some ⟨g, 0, none⟩) n cap (cs.set k u) := by
 obtain ⟨cur, hb, h1, h2, h3, rfl⟩ := h.blk
 refine ⟨by simpa using h.1, .inr ⟨g, _, rfl, hb.set_ k u, h1, h2, by simpa using h3, ?_⟩⟩
 rw [Array.toList_setIfInBounds, List.take_set]
theorem Own.pre {k : Nat} {A : Option Addr} (h : Own w E size A n cap cs) (hk : k ≤ n) (hA : A ≠ none) : Own w E size A k cap (cs.take (k * size)) := by
 rcases h.2 with ⟨rfl, _⟩ | ⟨g', cur, rfl, hb, h1, h2, h3, h4⟩
 ·exact (hA rfl).elim
 ·refine ⟨?_, .inr ⟨g', cur, rfl, hb, by omega, h2, h3, ?_⟩⟩
  ·rw [List.length_take, h.1]; exact Nat.min_eq_left (Nat.mul_le_mul_right _ hk)
  ·rw [← h4, List.take_take]; congr 1; exact (Nat.min_eq_left (Nat.mul_le_mul_right _ hk)).symm
end
section
variable {P : Program} (t : TypeId) (ht : P.underlying t = some (.slice (P.elem t))) (s : Nat) (hz : ∀ w, (sizeOf (P.elem t)).run P w = .ok s w) (a : Option Addr) (len cap : Nat)
include ht hz
theorem slice_lh (l h : Nat) (h1 : l ≤ h) (h2 : h ≤ cap) (w : World) :
  (Instr.slice t (.slice a len cap) (some (.int .i64 (l : Int))) (some (.int .i64 (h : Int))) none).run P w = .ok (.slice (cutA a cap l s) (h - l) (cap - l)) w := by
 rw [run_slice_lh w t a len cap ht .i64 .i64 l h (by omega) (by omega) (by omega), hz]; rfl
theorem zcN (h : Nat) (h2 : h ≤ cap) (w : World) :
  (Instr.slice t (.slice a len cap) none (some (.int .i64 (h : Int))) none).run P w = .ok (.slice a h cap) w := by
 rw [run_slice_h w t a len cap ht .i64 h (by omega) (by omega), hz]
 have e : (if cap = 0 then a else a.map (·.add (0 * s))) = a := zhx a cap s
 simp only [Result.andThen, sliced, e, Int.toNat_natCast, Nat.sub_zero]
theorem zfJ (l : Nat) (h1 : l ≤ len) (w : World) :
  (Instr.slice t (.slice a len cap) (some (.int .i64 (l : Int))) none none).run P w = .ok (.slice (cutA a cap l s) (len - l) (cap - l)) w := by
 rw [run_slice_l w t a len cap ht .i64 l (by omega) (by omega), hz]; rfl
theorem zlz (h m : Nat) (h1 : h ≤ m) (h2 : m ≤ cap) (w : World) :
  (Instr.slice t (.slice a len cap) none (some (.int .i64 (h : Int))) (some (.int .i64 (m : Int)))).run P w = .ok (.slice a h m) w := by
 rw [run_slice_hm w t a len cap ht .i64 .i64 h m (by omega) (by omega) (by omega), hz]
 have e : (if m = 0 then a else a.map (·.add (0 * s))) = a := zhx a m s
 simp only [Result.andThen, sliced, e, Int.toNat_natCast, Nat.sub_zero]
end
abbrev I64 (n : Int) : Value := .int .i64 n
section
variable {w w' : World} {F F' S : Nat → Prop} {A : Option Addr} {α : Type}
theorem Sl.get {f : α → Value} {l : List α} (h : Sl w F A (l.map f)) {k : Nat} (hk : k < l.length) : ∃ b o, A = some ⟨b, o, none⟩ ∧ F b ∧ w.cell? ⟨b, o + k, none⟩ = some (f l[k]) := by
 obtain ⟨b, o, hA, hF, _, hc⟩ := h.at_ (by intro e; have := congrArg List.length e; simp at this; simp [this] at hk)
 exact ⟨b, o, hA, hF, hc k _ (by simp [hk])⟩
theorem zcs {β : Type} (f : β → α → β) (l : List α) (k : Nat) (h : k < l.length) (s : β) : (l.take (k + 1)).foldl f s = f ((l.take k).foldl f s) l[k] := by
 rw [List.take_succ_eq_append_getElem h, List.foldl_append]
 rfl
def zbN (w : World) (F2 F : Nat → Prop) : Prop := ∀ k, F2 k → k < w.heap.size ∧ ¬ F k
theorem zbN.no {F2 : Nat → Prop} (h : zbN w F2 F) : ∀ k, F2 k → ¬ F k := fun k hk => (h k hk).2
theorem zbN.step {F2 : Nat → Prop} (h : zbN w F2 F) (hs : w.heap.size ≤ w'.heap.size) (hn : ∀ k, F' k → F k ∨ w.heap.size ≤ k) : zbN w' F2 F' := fun k hk =>
 ⟨Nat.lt_of_lt_of_le (h k hk).1 hs, fun hk' => (hn k hk').elim (h k hk).2 (fun hh => by have := (h k hk).1; omega)⟩
def zgC (w : World) (F : Nat → Prop) (v : Value) (bs : List UInt8) : Prop :=
 ∃ A c, v = .slice A bs.length c ∧ bs.length ≤ c ∧ c ≤ maxLen ∧ Sl w F A (bs.map fun b => .int .u8 (b.toNat : Int))
theorem zgC.fr {v : Value} {bs : List UInt8} (h : zgC w F v bs) (hf : Fr S w w') (hn : ∀ b, F b → ¬ S b) : zgC w' F v bs := by
 obtain ⟨A, c, e, h1, h2, h3⟩ := h
 exact ⟨A, c, e, h1, h2, h3.fr hf hn⟩
def zfE (w : World) (F : Nat → Prop) (vs : List Value) (rs : List (List UInt8)) : Prop :=
 vs.length = rs.length ∧ ∀ k (h : k < rs.length), ∃ v, vs[k]? = some v ∧ zgC w F v rs[k]
theorem zfE.fr {vs : List Value} {rs : List (List UInt8)} (h : zfE w F vs rs) (hf : Fr S w w') (hn : ∀ b, F b → ¬ S b) : zfE w' F vs rs :=
 ⟨h.1, fun k hk => by obtain ⟨v, e, hv⟩ := h.2 k hk; exact ⟨v, e, hv.fr hf hn⟩⟩
end
open Go Go.RowKit
def topN : Nat := 4611686018427387903
def encF : Nat → Nat → List UInt8
 | 0, _ => []
 | f + 1, n => if n < 128 then [UInt8.ofNat n] else UInt8.ofNat (n % 128 + 128) :: encF f (n / 128)
def enc (n : Nat) : List UInt8 := encF 9 n
theorem zcG (f n : Nat) (h : n < 128) : encF (f + 1) n = [UInt8.ofNat n] := by simp [encF, h]
theorem zde (f n : Nat) (h : 128 ≤ n) : encF (f + 1) n = UInt8.ofNat (n % 128 + 128) :: encF f (n / 128) := by
 simp [encF, Nat.not_lt.2 h]
theorem zl2 : ∀ (f g n : Nat), 0 < f → n < 128 ^ f → encF (f + g) n = encF f n := by
 intro f
 induction f with
 | zero => intro g n h; omega
 | succ f ih =>
  intro g n _ hn
  have e : f + 1 + g = (f + g) + 1 := by omega
  rw [e]
  by_cases h : n < 128
  ·rw [zcG _ _ h, zcG _ _ h]
  ·rw [zde _ _ (by omega), zde _ _ (by omega)]
   have hf : 0 < f := by
    rcases Nat.eq_zero_or_pos f with h0 | h0
    ·subst h0; simp at hn; omega
    ·exact h0
   rw [ih g (n / 128) hf (by rw [Nat.div_lt_iff_lt_mul (by omega)]; rw [Nat.pow_succ] at hn; exact hn)]
theorem zlw : ∀ (f n : Nat), (encF f n).length ≤ f := by
 intro f
 induction f with
 | zero => intro n; simp [encF]
 | succ f ih =>
  intro n
  by_cases h : n < 128
  ·rw [zcG _ _ h]; simp
  ·rw [zde _ _ (by omega)]; have := ih (n / 128); simp; omega
theorem zj9 (n : Nat) (h : 128 ≤ n) (hn : n ≤ topN) : enc n = UInt8.ofNat (n % 128 + 128) :: enc (n / 128) := by
 unfold enc
 rw [zde _ _ h, zl2 8 1 (n / 128) (by omega) (by unfold topN at hn; omega)]
theorem zhv (n : Nat) (h : n < 128) : enc n = [UInt8.ofNat n] := zcG 8 n h
theorem zaR (n : Nat) : (enc n).length ≤ 9 := zlw 9 n
theorem zkx (n : Nat) : enc n ≠ [] := by
 unfold enc
 by_cases h : n < 128
 ·rw [zcG _ _ h]; simp
 ·rw [zde _ _ (by omega)]; simp
def decF : Nat → Bool → List UInt8 → Option (Nat × List UInt8)
 | 0, _, _ => none
 | _ + 1, _, [] => none
 | f + 1, first, b :: r =>
  if b.toNat < 128 then (if first = false ∧ b.toNat = 0 then none else some (b.toNat, r))
  else match decF f false r with
   | none => none
   | some (n, s) => some (b.toNat - 128 + 128 * n, s)
abbrev Rd := Option (List UInt8)
def decN (bs : List UInt8) : Option (Nat × List UInt8) :=
 match decF 9 true bs with
 | none => none
 | some (n, r) => if topN < n then none else some (n, r)
def za1 (most : Int) : Rd → Int × Rd
 | none => (0, none)
 | some bs => match decN bs with
  | none => (0, none)
  | some (n, r) => if most < (n : Int) then (0, none) else ((n : Int), some r)
theorem zd5 {bs : List UInt8} (most : Int) (h : decN bs = none) : za1 most (some bs) = (0, none) := by simp [za1, h]
theorem zfl {bs r : List UInt8} {n : Nat} (most : Int) (h : decN bs = some (n, r)) (hm : most < (n : Int)) : za1 most (some bs) = (0, none) := by simp [za1, h, hm]
theorem zf3 {bs r : List UInt8} {n : Nat} (most : Int) (h : decN bs = some (n, r)) (hm : ¬ most < (n : Int)) : za1 most (some bs) = ((n : Int), some r) := by simp [za1, h, hm]
def zaK : Rd → Bool × Rd
 | none => (false, none)
 | some [] => (false, none)
 | some (b :: r) => if 1 < b.toNat then (false, none) else (((b.toNat : Int) == 1), some r)
def zb1 (most : Int) (s : Rd) : List UInt8 × Rd :=
 match za1 most s with
 | (_, none) => ([], none)
 | (n, some r) => if r.length < n.toNat then ([], none) else (r.take n.toNat, some (r.drop n.toNat))
theorem zdt {s : Rd} {most n : Int} (h : za1 most s = (n, none)) : zb1 most s = ([], none) := by simp [zb1, h]
theorem zd0 {s : Rd} {most : Int} {m : Nat} {r : List UInt8} (h : za1 most s = ((m : Int), some r)) : zb1 most s = if r.length < m then ([], none) else (r.take m, some (r.drop m)) := by simp [zb1, h]
def zav : Rd → Nat
 | none => 0
 | some bs => bs.length
def zd2 : Rd → Int
 | none => 4
 | some bs => if bs = [] then 0 else 4
structure Wr where
 ok : Bool
 bs : List UInt8
def zdd (n : Int) (s : Wr) : Wr := if n < 0 ∨ (topN : Int) < n then { s with ok := false } else { s with bs := s.bs ++ enc n.toNat }
def zcb (l : List Int) (s : Wr) : Wr := l.foldl (fun s n => zdd n s) s
def zgd (b : Bool) (s : Wr) : Wr := { s with bs := s.bs ++ [if b then 1 else 0] }
def zb9 (l : List Bool) (s : Wr) : Wr := l.foldl (fun s n => zgd n s) s
def zf1 (b : List UInt8) (s : Wr) : Wr := { s with bs := s.bs ++ (enc b.length ++ b) }
def zb0 (l : List (List UInt8)) (s : Wr) : Wr := l.foldl (fun s n => zf1 n s) s
theorem zfX (l : List Int) (k : Nat) (h : k < l.length) (s : Wr) : zcb (l.take (k + 1)) s = zdd l[k] (zcb (l.take k) s) := zcs _ l k h s
theorem zfh (l : List Bool) (k : Nat) (h : k < l.length) (s : Wr) : zb9 (l.take (k + 1)) s = zgd l[k] (zb9 (l.take k) s) := zcs _ l k h s
theorem zeA (l : List (List UInt8)) (k : Nat) (h : k < l.length) (s : Wr) : zb0 (l.take (k + 1)) s = zf1 l[k] (zb0 (l.take k) s) := zcs _ l k h s
theorem zeR (l : List Int) (s : Wr) : (zcb l s).bs.length ≤ s.bs.length + 9 * l.length := by
 unfold zcb
 induction l generalizing s with
 | nil => simp
 | cons n l ih =>
  have h := ih (zdd n s)
  have h1 : (zdd n s).bs.length ≤ s.bs.length + 9 := by
   unfold zdd; split
   ·simp
   ·have := zaR n.toNat; simp; omega
  simp only [List.foldl_cons, List.length_cons]; omega
theorem zez (l : List Bool) (s : Wr) : (zb9 l s).bs.length = s.bs.length + l.length := by
 unfold zb9
 induction l generalizing s with
 | nil => simp
 | cons n l ih =>
  have h := ih (zgd n s)
  simp only [List.foldl_cons, List.length_cons]
  rw [h]; simp [zgd]; omega
def zcn (l : List (List UInt8)) : Nat := (l.map List.length).sum
theorem ze5 (l : List (List UInt8)) (s : Wr) : (zb0 l s).bs.length ≤ s.bs.length + 9 * l.length + zcn l := by
 unfold zb0 zcn
 induction l generalizing s with
 | nil => simp
 | cons n l ih =>
  have h := ih (zf1 n s)
  have h1 : (zf1 n s).bs.length ≤ s.bs.length + 9 + n.length := by
   have := zaR n.length; simp [zf1]; omega
  simp only [List.foldl_cons, List.length_cons, List.map_cons, List.sum_cons]; omega
theorem zeC (l : List (List UInt8)) (k : Nat) (h : k < l.length) : l[k].length + zcn (l.take k) ≤ zcn l := by
 unfold zcn
 induction l generalizing k with
 | nil => simp at h
 | cons a l ih =>
  cases k with
  | zero => simp
  | succ k => have := ih k (by simpa using h); simp only [List.take_succ_cons, List.map_cons, List.sum_cons, List.getElem_cons_succ]; omega
abbrev B8 (b : UInt8) : Value := .int .u8 (b.toNat : Int)
theorem zar (bs : List UInt8) : ∀ u ∈ bs.map B8, u.oneCell' = true := by
 intro u hu
 obtain ⟨_, _, rfl⟩ := List.mem_map.1 hu
 rfl
theorem zkD (k : Nat) : bits BinOp.or IntKind.u8 ((k : Int) % 256) 128 = ((UInt8.ofNat (k % 128 + 128)).toNat : Int) := by
 have h : ∀ m : Fin 256, bits BinOp.or IntKind.u8 ((m.val : Nat) : Int) 128 = (((m.val % 128 + 128 : Nat)) : Int) := by decide +kernel
 have e : (UInt8.ofNat (k % 128 + 128)).toNat = k % 128 + 128 := by rw [UInt8.toNat_ofNat']; omega
 have h1 := h ⟨k % 256, Nat.mod_lt _ (by omega)⟩
 simp only at h1
 have e2 : ((k : Int) % 256) = ((k % 256 : Nat) : Int) := by omega
 rw [e, e2, h1]
 have : k % 256 % 128 = k % 128 := by omega
 rw [this]
theorem zjd (k : Nat) (h : k < 128) : ((k : Int) % 256) = ((UInt8.ofNat k).toNat : Int) := by
 have e : (UInt8.ofNat k).toNat = k := by rw [UInt8.toNat_ofNat']; omega
 rw [e]; omega
theorem zm9 (b : UInt8) : bits BinOp.and IntKind.u8 (b.toNat : Int) 127 = ((b.toNat % 128 : Nat) : Int) := by
 have h : ∀ m : Fin 256, bits BinOp.and IntKind.u8 ((m.val : Nat) : Int) 127 = ((m.val % 128 : Nat) : Int) := by decide +kernel
 have h1 := h ⟨b.toNat, b.toNat_lt⟩
 simpa using h1
theorem zdc (a : Nat) (ha : a < 9223372036854775808) : (BitVec.ofInt 64 (a : Int)).toNat = a := by
 rw [BitVec.ofInt_natCast, BitVec.toNat_ofNat]; exact Nat.mod_eq_of_lt (by omega)
theorem orAdd (k acc d : Nat) (hk : k < 9) (ha : acc < 128 ^ k) (hd : d < 128) :
  bits BinOp.or IntKind.i64 (acc : Int) ((d : Int) * 2 ^ (7 * k)) = ((acc + 128 ^ k * d : Nat) : Int) := by
 have e128 : (128 : Nat) ^ k = 2 ^ (7 * k) := by rw [show (128 : Nat) = 2 ^ 7 from rfl, ← Nat.pow_mul]
 have hb : (128 : Nat) ^ k ≤ 128 ^ 8 := Nat.pow_le_pow_right (by omega) (by omega)
 have hb2 : 128 ^ k * d ≤ 128 ^ k * 127 := Nat.mul_le_mul_left _ (by omega)
 have hor : acc ||| (2 ^ (7 * k) * d) = acc + 2 ^ (7 * k) * d := by
  rw [Nat.or_comm, Nat.add_comm, Nat.two_pow_add_eq_or_of_lt (by rw [← e128]; exact ha)]
 have ed : ((d : Int) * 2 ^ (7 * k)) = ((2 ^ (7 * k) * d : Nat) : Int) := by
  rw [Int.natCast_mul, Int.natCast_pow, Int.mul_comm]; rfl
 rw [ed]
 have h8 : (128 : Nat) ^ 8 = 72057594037927936 := by decide
 show IntKind.i64.wrap ((BitVec.ofInt 64 (acc : Int) ||| BitVec.ofInt 64 ((2 ^ (7 * k) * d : Nat) : Int)).toNat : Int) = _
 rw [BitVec.toNat_or, zdc acc (by omega), zdc _ (by rw [← e128]; omega), hor, IntKind.wrap_i64, ← e128]
 omega
theorem zj0 (k acc : Nat) (b : UInt8) (hk : k < 9) (ha : acc < 128 ^ k) :
  bits BinOp.or IntKind.i64 (acc : Int) (wrap64 (wrap64 (bits BinOp.and IntKind.u8 (b.toNat : Int) 127) * 2 ^ (7 * k))) = ((acc + 128 ^ k * (b.toNat % 128) : Nat) : Int) := by
 have e128 : (128 : Nat) ^ k = 2 ^ (7 * k) := by rw [show (128 : Nat) = 2 ^ 7 from rfl, ← Nat.pow_mul]
 have hb : (128 : Nat) ^ k ≤ 128 ^ 8 := Nat.pow_le_pow_right (by omega) (by omega)
 have h8 : (128 : Nat) ^ 8 = 72057594037927936 := by decide
 have hb2 : 128 ^ k * (b.toNat % 128) ≤ 128 ^ k * 127 := Nat.mul_le_mul_left _ (by omega)
 have ed : (((b.toNat % 128 : Nat) : Int) * 2 ^ (7 * k)) = ((2 ^ (7 * k) * (b.toNat % 128) : Nat) : Int) := by
  rw [Int.natCast_mul, Int.natCast_pow, Int.mul_comm]; rfl
 rw [zm9, show wrap64 ((b.toNat % 128 : Nat) : Int) = ((b.toNat % 128 : Nat) : Int) from IntWalk.wrap64_in _ (by omega), IntWalk.wrap64_in _ (by rw [ed, ← e128]; omega)]
 exact orAdd k acc _ hk ha (by omega)
theorem zej (f : Nat) (first : Bool) (b : UInt8) (r : List UInt8) (h : 128 ≤ b.toNat) :
  decF (f + 1) first (b :: r) = (match decF f false r with | none => none | some (n, s) => some (b.toNat - 128 + 128 * n, s)) := by
 simp [decF, Nat.not_lt.2 h]
theorem zem (f : Nat) (first : Bool) (b : UInt8) (r : List UInt8) (h : b.toNat < 128) :
  decF (f + 1) first (b :: r) = if first = false ∧ b.toNat = 0 then none else some (b.toNat, r) := by
 simp [decF, h]
theorem zll (f : Nat) (first : Bool) : decF f first [] = none := by cases f <;> rfl
theorem zmG : ∀ (f : Nat) (first : Bool) (bs : List UInt8) (n : Nat) (r : List UInt8), decF f first bs = some (n, r) → n < 128 ^ f := by
 intro f
 induction f with
 | zero => intro _ _ _ _ h; simp [decF] at h
 | succ f ih =>
  intro first bs n r h
  cases bs with
  | nil => simp [decF] at h
  | cons b s =>
   by_cases hb : b.toNat < 128
   ·rw [zem _ _ _ _ hb] at h
    split at h
    ·cases h
    ·injection h with h; injection h with h1 h2
     have : 0 < 128 ^ f := Nat.pow_pos (by omega)
     rw [Nat.pow_succ]; omega
   ·rw [zej _ _ _ _ (by omega)] at h
    cases hd : decF f false s with
    | none => rw [hd] at h; cases h
    | some q =>
     obtain ⟨m, t⟩ := q
     rw [hd] at h
     injection h with h; injection h with h1 h2
     have hm := ih false s m t hd
     have hb' : b.toNat < 256 := b.toNat_lt
     rw [Nat.pow_succ]; omega
structure zcF (bs : List UInt8) (k acc : Nat) (rest : List UInt8) : Prop where
 le : k ≤ 9
 lt : acc < 128 ^ k
 is : decF 9 true bs = (match decF (9 - k) (decide (k = 0)) rest with | none => none | some (m, r) => some (acc + 128 ^ k * m, r))
theorem zcF.start (bs : List UInt8) : zcF bs 0 0 bs := by
 refine ⟨by omega, by simp, ?_⟩
 simp only [Nat.sub_zero, decide_true, Nat.pow_zero, Nat.one_mul, Nat.zero_add]
 cases decF 9 true bs <;> rfl
theorem zcF.next {bs r : List UInt8} {k acc : Nat} {b : UInt8} (h : zcF bs k acc (b :: r)) (hk : k < 9) (hb : 128 ≤ b.toNat) : zcF bs (k + 1) (acc + 128 ^ k * (b.toNat - 128)) r := by
 have hb' : b.toNat < 256 := b.toNat_lt
 refine ⟨hk, ?_, ?_⟩
 ·have h1 := h.lt
  have : 128 ^ k * (b.toNat - 128) ≤ 128 ^ k * 127 := Nat.mul_le_mul_left _ (by omega)
  rw [Nat.pow_succ]; omega
 ·rw [h.is]
  have e : 9 - k = (9 - (k + 1)) + 1 := by omega
  rw [e, zej _ _ _ _ hb]
  have e2 : decide (k + 1 = 0) = false := by simp
  rw [e2]
  cases decF (9 - (k + 1)) false r with
  | none => rfl
  | some q =>
   obtain ⟨m, s⟩ := q
   simp only [Option.some.injEq, Prod.mk.injEq, and_true]
   rw [Nat.pow_succ, Nat.mul_add, Nat.mul_assoc, Nat.add_assoc]
theorem zcF.none_ {bs : List UInt8} {k acc : Nat} (h : zcF bs k acc []) : decN bs = none := by
 unfold decN; rw [h.is, zll]
theorem zcF.far {bs r : List UInt8} {acc : Nat} (h : zcF bs 9 acc r) : decN bs = none := by
 unfold decN; rw [h.is]; rfl
theorem zcF.last {bs r : List UInt8} {k acc : Nat} {b : UInt8} (h : zcF bs k acc (b :: r)) (hk : k < 9) (hb : b.toNat < 128) :
  decN bs = if 0 < k ∧ b.toNat = 0 then none else if topN < acc + 128 ^ k * b.toNat then none else some (acc + 128 ^ k * b.toNat, r) := by
 unfold decN
 rw [h.is]
 have e : 9 - k = (9 - (k + 1)) + 1 := by omega
 rw [e, zem _ _ _ _ hb]
 by_cases h0 : 0 < k ∧ b.toNat = 0
 ·rw [if_pos (show decide (k = 0) = false ∧ b.toNat = 0 from ⟨by simp; omega, h0.2⟩), if_pos h0]
 ·rw [if_neg (show ¬ (decide (k = 0) = false ∧ b.toNat = 0) from fun h => h0 ⟨by have := h.1; simp at this; omega, h.2⟩), if_neg h0]
theorem zlB : ∀ (f : Nat) (first : Bool) (bs : List UInt8) (n : Nat) (r : List UInt8), decF f first bs = some (n, r) → (first = true ∨ 0 < n) ∧ bs = encF f n ++ r := by
 intro f
 induction f with
 | zero => intro _ _ _ _ h; simp [decF] at h
 | succ f ih =>
  intro first bs n r h
  cases bs with
  | nil => simp [decF] at h
  | cons b s =>
   by_cases hb : b.toNat < 128
   ·rw [zem _ _ _ _ hb] at h
    split at h
    ·cases h
    ·rename_i hne
     injection h with h; injection h with h1 h2
     subst h1; subst h2
     rw [zcG _ _ hb]
     refine ⟨?_, by simp⟩
     cases first <;> simp_all <;> omega
   ·rw [zej _ _ _ _ (by omega)] at h
    cases hd : decF f false s with
    | none => rw [hd] at h; cases h
    | some q =>
     obtain ⟨m, t⟩ := q
     rw [hd] at h
     injection h with h; injection h with h1 h2
     subst h2
     obtain ⟨hm, hs⟩ := ih false s m t hd
     have hm' : 0 < m := by simpa using hm
     have hb' : b.toNat < 256 := b.toNat_lt
     have hn : 128 ≤ n := by omega
     have e1 : n % 128 + 128 = b.toNat := by omega
     have e2 : n / 128 = m := by omega
     rw [zde _ _ hn, e1, e2]
     exact ⟨.inr (by omega), by simp [hs]⟩
theorem ziT : ∀ (f : Nat) (first : Bool) (n : Nat) (r : List UInt8), n < 128 ^ f → 0 < f → (first = true ∨ 0 < n) → decF f first (encF f n ++ r) = some (n, r) := by
 intro f
 induction f with
 | zero => intro _ n _ h h0; omega
 | succ f ih =>
  intro first n r hn _ hf
  by_cases h : n < 128
  ·rw [zcG _ _ h, List.singleton_append]
   have e : (UInt8.ofNat n).toNat = n := by rw [UInt8.toNat_ofNat']; omega
   rw [zem _ _ _ _ (by omega), e, if_neg]
   rcases hf with hf | hf
   ·simp [hf]
   ·omega
  ·rw [zde _ _ (by omega), List.cons_append]
   have e : (UInt8.ofNat (n % 128 + 128)).toNat = n % 128 + 128 := by rw [UInt8.toNat_ofNat']; omega
   rw [zej _ _ _ _ (by omega), e]
   have h0 : 0 < f := by
    rcases Nat.eq_zero_or_pos f with h0 | h0
    ·subst h0; simp at hn; omega
    ·exact h0
   rw [ih false (n / 128) r (by rw [Nat.div_lt_iff_lt_mul (by omega)]; rw [Nat.pow_succ] at hn; exact hn) h0 (.inr (by omega))]
   simp only [Option.some.injEq, Prod.mk.injEq, and_true]
   omega
theorem ziC {bs r : List UInt8} {n : Nat} (h : decN bs = some (n, r)) : n ≤ topN ∧ bs = enc n ++ r := by
 unfold decN at h
 split at h
 ·cases h
 ·rename_i m s hd
  split at h
  ·cases h
  ·rename_i ht
   injection h with h; injection h with h1 h2
   subst h1; subst h2
   exact ⟨by omega, (zlB 9 true bs m s hd).2⟩
theorem ziR (n : Nat) (r : List UInt8) (h : n ≤ topN) : decN (enc n ++ r) = some (n, r) := by
 unfold decN enc
 rw [ziT 9 true n r (by unfold topN at h; omega) (by omega) (.inl rfl)]
 simp only
 rw [if_neg (by omega)]
theorem zbO (most : Int) (s : Rd) : za1 most s = (0, none) ∨ ∃ (bs : List UInt8) (m : Nat) (r : List UInt8), s = some bs ∧ za1 most s = ((m : Int), some r) ∧ m ≤ topN ∧ (m : Int) ≤ most ∧ bs = enc m ++ r := by
 cases s with
 | none => exact .inl rfl
 | some bs =>
  cases hd : decN bs with
  | none => exact .inl (zd5 most hd)
  | some q =>
   obtain ⟨m, r⟩ := q
   by_cases hm : most < (m : Int)
   ·exact .inl (zfl most hd hm)
   ·obtain ⟨h1, h2⟩ := ziC hd
    exact .inr ⟨bs, m, r, rfl, zf3 most hd hm, h1, by omega, h2⟩
def zah (l : List Int) : List UInt8 := (l.map fun n => enc n.toNat).flatten
theorem zfM (l : List Int) (n : Int) : zah (l ++ [n]) = zah l ++ enc n.toNat := by simp [zah]
theorem zjX (l : List Int) : l.length ≤ (zah l).length := by
 unfold zah
 induction l with
 | nil => simp
 | cons n l ih =>
  have : 0 < (enc n.toNat).length := by
   have := zkx n.toNat
   cases h : enc n.toNat with
   | nil => exact (this h).elim
   | cons _ _ => simp
  simp only [List.map_cons, List.flatten_cons, List.length_cons, List.length_append]
  omega
def zcf (n : Int) : Prop := 0 ≤ n ∧ n ≤ (topN : Int)
theorem zeb (l : List Int) (s : Wr) (h : ∀ n ∈ l, zcf n) : zcb l s = ⟨s.ok, s.bs ++ zah l⟩ := by
 unfold zcb
 induction l generalizing s with
 | nil => simp [zah]
 | cons n l ih =>
  have hn := h n (by simp)
  have hs : zdd n s = ⟨s.ok, s.bs ++ enc n.toNat⟩ := by
   unfold zdd
   rw [if_neg (by unfold zcf at hn; omega)]
  rw [List.foldl_cons, hs, ih _ (fun m hm => h m (by simp [hm]))]
  simp [zah]
open Go Go.RowKit
def zcl (b : Bool) : List UInt8 := [if b then 1 else 0]
def rowB (s : List UInt8) : List UInt8 := enc s.length ++ s
structure Cfg where
 v : List Int
 o : List Int
 l : List Int
 w : List Int
deriving DecidableEq
structure Ent where
 term : Int
 kind : Int
 cmd : List UInt8
 cfg : Cfg
deriving DecidableEq
structure Bas where
 index : Int
 term : Int
 cfg : Cfg
deriving DecidableEq
structure LetF where
 kind : Int
 group : Int
 src : Int
 dst : Int
 term : Int
 index : Int
 logt : Int
 commit : Int
 ok : Bool
 ents : List Ent
 base : Bas
 size : Int
 at_ : Int
 tag : Int
 bytes : List UInt8
deriving DecidableEq
def cfgZ : Cfg := ⟨[], [], [], []⟩
def entZ : Ent := ⟨0, 0, [], cfgZ⟩
def basZ : Bas := ⟨0, 0, cfgZ⟩
def ndAt (l : List Int) (i : Nat) : Bool := decide (1 ≤ l.getD i 0 ∧ l.getD i 0 ≤ 5) && (decide (i = 0) || decide (l.getD (i - 1) 0 < l.getD i 0))
def zaq (l : List Int) : Bool := (List.range l.length).all (ndAt l)
def zby (c : Cfg) : Bool := zaq c.v && (zaq c.o && (zaq c.l && zaq c.w))
def zc8 (c : Cfg) : Bool := decide (c.v.length + c.o.length + c.l.length + c.w.length = 0)
def zbd (n : Int) : Bool := decide (0 ≤ n ∧ n ≤ 1073741824)
def zbm (e : Ent) : Bool :=
 zbd e.term && (if e.kind = 1 then decide (e.cmd.length = 0) && zc8 e.cfg
  else if e.kind = 2 then decide (e.cmd.length ≤ 131072) && zc8 e.cfg
  else decide (e.kind = 3) && (decide (e.cmd.length = 0) && zby e.cfg))
def zbi (b : Bas) : Bool := zbd b.index && (zbd b.term && zby b.cfg)
def zaE (x : LetF) : Bool :=
 (zbd x.term && (zbd x.index && (zbd x.logt && (zbd x.commit && (zbd x.size && zbd x.at_))))) && (decide (0 ≤ x.tag ∧ x.tag ≤ 4611686018427387903) &&
  ((decide (1 ≤ x.kind ∧ x.kind ≤ 8) && (decide (0 ≤ x.group ∧ x.group ≤ 4) && (decide (1 ≤ x.src ∧ x.src ≤ 5) && decide (1 ≤ x.dst ∧ x.dst ≤ 5)))) &&
   ((decide (x.ents.length ≤ 30) && (decide (x.bytes.length ≤ 131072) && zbi x.base)) && x.ents.all zbm)))
def zbF (l : List LetF) : Bool := l.all zaE
def zbe (l : List Int) : List UInt8 := enc l.length ++ zah l
def cfgB (c : Cfg) : List UInt8 := zbe c.v ++ (zbe c.o ++ (zbe c.l ++ zbe c.w))
def entB (e : Ent) : List UInt8 := enc e.term.toNat ++ (enc e.kind.toNat ++ (rowB e.cmd ++ cfgB e.cfg))
def zaX (l : List Ent) : List UInt8 := (l.map entB).flatten
def basB (b : Bas) : List UInt8 := enc b.index.toNat ++ (enc b.term.toNat ++ cfgB b.cfg)
def zcd (x : LetF) : List Int := [x.kind, x.group, x.src, x.dst, x.term, x.index, x.logt, x.commit]
def letB (x : LetF) : List UInt8 :=
 zah (zcd x) ++ (zcl x.ok ++ (enc x.ents.length ++ (zaX x.ents ++ (basB x.base ++ (zah [x.size, x.at_, x.tag] ++ rowB x.bytes)))))
def zcw (l : List LetF) : List UInt8 := enc l.length ++ (l.map letB).flatten
def zbU (l : List LetF) : Option (List UInt8) := if zbF l = true then some (zcw l) else none
def rdNs (m : Int) : Nat → Rd → List Int × Rd
 | 0, s => ([], s)
 | k + 1, s => ((rdNs m k s).1 ++ [(za1 m (rdNs m k s).2).1], (za1 m (rdNs m k s).2).2)
def zaA (s : Rd) : List Int × Rd := rdNs 5 (za1 5 s).1.toNat (za1 5 s).2
def zat (s : Rd) : Cfg × Rd :=
 let a := zaA s
 let b := zaA a.2
 let c := zaA b.2
 let d := zaA c.2
 (⟨a.1, b.1, c.1, d.1⟩, d.2)
def zb7 (s : Rd) : Ent × Rd :=
 let t := za1 1073741824 s
 let k := za1 255 t.2
 let c := zb1 131072 k.2
 let g := zat c.2
 (⟨t.1, k.1, c.1, g.1⟩, g.2)
def zb8 (s : Rd) : Bas × Rd :=
 let i := za1 1073741824 s
 let t := za1 1073741824 i.2
 let g := zat t.2
 (⟨i.1, t.1, g.1⟩, g.2)
def zgT (s : Rd) : Bool := (zb7 s).2.isSome && zbm (zb7 s).1
def zh9 (s : Rd) : Bool := (zb8 s).2.isSome && zbi (zb8 s).1
def zbb (s : Rd) : Ent × Bool := if zgT s = true then ((zb7 s).1, true) else (entZ, false)
def zbu (s : Rd) : Bas × Bool := if zh9 s = true then ((zb8 s).1, true) else (basZ, false)
def zam : Nat → Rd → (List Ent × Bool) × Rd
 | 0, s => (([], true), s)
 | k + 1, s => (((zam k s).1.1 ++ [(zbb (zam k s).2).1], (zam k s).1.2 && (zbb (zam k s).2).2), (zb7 (zam k s).2).2)
def zaS : List Int := [1073741824, 1073741824, 1073741824, 1073741824, 1073741824, 1073741824, 1073741824, 1073741824]
def zch : List Int := [255, 4, 5, 5, 1073741824, 1073741824, 1073741824, 1073741824]
def rdBy : List Int → Rd → List Int × Rd
 | [], s => ([], s)
 | m :: l, s => ((za1 m s).1 :: (rdBy l (za1 m s).2).1, (rdBy l (za1 m s).2).2)
def zbh (hd : List Int) (s : Rd) : (LetF × Bool) × Rd :=
 let h := rdBy hd s
 let f := zaK h.2
 let n := za1 30 f.2
 let e := zam n.1.toNat n.2
 let b := zb8 e.2
 let sz := za1 1073741824 b.2
 let a := za1 1073741824 sz.2
 let t := za1 4611686018427387903 a.2
 let r := zb1 131072 t.2
 let x : LetF := ⟨h.1.getD 0 0, h.1.getD 1 0, h.1.getD 2 0, h.1.getD 3 0, h.1.getD 4 0, h.1.getD 5 0, h.1.getD 6 0, h.1.getD 7 0, f.1, e.1.1, (zbu e.2).1, sz.1, a.1, t.1, r.1⟩
 ((x, e.1.2 && ((zbu e.2).2 && (r.2.isSome && zaE x))), r.2)
def zbC (hd : List Int) : Nat → List UInt8 → Option (List LetF × List UInt8)
 | 0, s => some ([], s)
 | k + 1, s => match zbC hd k s with
  | none => none
  | some (l, r) => match zbh hd (some r) with
   | ((x, true), some r') => some (l ++ [x], r')
   | _ => none
def zbJ (hd : List Int) (b : List UInt8) : Option (List LetF) := match za1 1073741824 (some b) with
 | (_, none) => none
 | (n, some r) => match zbC hd n.toNat r with
  | some (l, []) => some l
  | _ => none
end Go.Proofs.YtippdjaakcgeoaaGreat
