/- Rows of bytes, of numbers, that are written over, whatever is in them. (Printed by genls.py.) -/
import Derived.Test.YtippdjaakcgeoaaClF
namespace Go.Proofs.Ytippdjaakcgeoaa
open Go Go.RowKit
/-- A row whose cells are of one sort, whatever they are: of as many places as the list. -/
def RowAt (E : TypeId) (ok : Value → Prop) (w : World) (A : Option Addr) (n : Nat) : Prop := n = 0 ∨ ∃ g cur, A = some ⟨g, 0, none⟩ ∧ Blk w g E cur ∧ n ≤ cur.size ∧ ∀ i, i < n → ∃ v, cur[i]? = some v ∧ ok v
section
variable {E : TypeId} {ok : Value → Prop} {w w' : World} {A : Option Addr} {n : Nat} {S : Nat → Prop}
theorem RowAt.fr (h : RowAt E ok w A n) (f : Fr S w w') (hn : ∀ k, inA A k → ¬ S k) : RowAt E ok w' A n := by
  rcases h with h | ⟨g, cur, rfl, hb, h1, h2⟩
  · exact .inl h
  · exact .inr ⟨g, cur, rfl, hb.fr f (hn g ((inA_some _ _).2 rfl)), h1, h2⟩
theorem RowAt.own {c : Nat} {cs : List Value} (h : Own w E 1 A n c cs) (hok : ∀ v ∈ cs, ok v) : RowAt E ok w A n := by
  rcases h.2 with ⟨_, h0, _⟩ | ⟨g, cur, rfl, hb, h1, h2, h3, h4⟩
  · exact .inl h0
  · refine .inr ⟨g, cur, rfl, hb, by omega, fun i hi => ?_⟩
    have hl := h.1
    have hi2 : i < cs.length := by omega
    refine ⟨cs[i], ?_, hok _ (List.getElem_mem hi2)⟩
    have e : (cur.toList.take (n * 1))[i]? = some cs[i] := by rw [h4]; exact List.getElem?_eq_getElem hi2
    rw [List.getElem?_take, if_pos (by omega), Array.getElem?_toList] at e
    exact e
/-- A cell of a row of this sort was set. -/
theorem RowAt.set_ (h : RowAt E ok w A n) {g : Nat} {cur : Array Value} (hb : Blk w g E cur) (i : Nat) {v : Value} (hv : ok v) : RowAt E ok (w.setCell ⟨g, i, none⟩ v) A n := by
  rcases h with h | ⟨g2, cur2, rfl, hb2, h1, h2⟩
  · exact .inl h
  · by_cases e : g2 = g
    · subst e
      obtain ⟨_, rfl⟩ := hb.inj hb2
      refine .inr ⟨g2, _, rfl, hb.set_ i v, by simpa using h1, fun j hj => ?_⟩
      by_cases hij : i = j
      · subst hij
        exact ⟨v, by rw [Array.getElem?_setIfInBounds_self_of_lt (by omega)], hv⟩
      · obtain ⟨u, e1, e2⟩ := h2 j hj
        exact ⟨u, by rw [Array.getElem?_setIfInBounds_ne hij]; exact e1, e2⟩
    · exact .inr ⟨g2, cur2, rfl, hb2.far (p := ⟨g, i, none⟩) e v, h1, h2⟩
/-- A cell of a row of another sort was set. -/
theorem RowAt.off (h : RowAt E ok w A n) {g : Nat} {t : TypeId} {cur : Array Value} (hb : Blk w g t cur) (hne : t ≠ E) (i : Nat) (v : Value) : RowAt E ok (w.setCell ⟨g, i, none⟩ v) A n := by
  rcases h with h | ⟨g2, cur2, rfl, hb2, h1, h2⟩
  · exact .inl h
  · exact .inr ⟨g2, cur2, rfl, hb2.far (p := ⟨g, i, none⟩) (fun e => by subst e; exact hne (hb.inj hb2).1) v, h1, h2⟩
theorem RowAt.at_ (h : RowAt E ok w A n) {i : Nat} (hi : i < n) : ∃ g cur v, A = some ⟨g, 0, none⟩ ∧ Blk w g E cur ∧ cur[i]? = some v ∧ ok v := by
  rcases h with h | ⟨g, cur, h0, hb, h1, h2⟩
  · omega
  · obtain ⟨v, e1, e2⟩ := h2 i hi
    exact ⟨g, cur, v, h0, hb, e1, e2⟩
end
def isB8 (v : Value) : Prop := ∃ b : UInt8, v = B8 b
def isI64 (v : Value) : Prop := ∃ n : Int, v = I64 n
abbrev U8At (w : World) (s : Ls UInt8) : Prop := RowAt 5 isB8 w s.a s.l.length
abbrev IntAt (w : World) (s : Ls Int) : Prop := RowAt 3 isI64 w s.a s.l.length
theorem LsOwn.u8 {w0 w : World} {s : Ls UInt8} (h : LsOwn w0 w 5 1 bytesC s) : U8At w s := RowAt.own h.own (fun v hv => by
  obtain ⟨b, _, rfl⟩ := List.mem_map.1 hv
  exact ⟨b, rfl⟩)
theorem LsOwn.int {w0 w : World} {s : Ls Int} (h : LsOwn w0 w 3 1 intsC s) : IntAt w s := RowAt.own h.own (fun v hv => by
  obtain ⟨b, _, rfl⟩ := List.mem_map.1 hv
  exact ⟨b, rfl⟩)
theorem wrap_b8 (b : UInt8) : ∃ b2 : UInt8, IntKind.u8.wrap ((b.toNat : Int) + 1) = (b2.toNat : Int) := by
  refine ⟨UInt8.ofNat (b.toNat + 1), ?_⟩
  have h := b.toNat_lt
  have e : (UInt8.ofNat (b.toNat + 1)).toNat = (b.toNat + 1) % 256 := rfl
  rw [e]
  show ((b.toNat : Int) + 1) % 256 = _
  omega
/-- Entries with other terms. -/
def SameBut (es zs : List EntM) : Prop := zs.length = es.length ∧ ∀ k (h : k < zs.length) (h2 : k < es.length), zs[k].cmd = es[k].cmd
theorem entsC_set (zs : List EntM) (k : Nat) (h : k < zs.length) (t : Int) : (entsC zs).set (k * 7) (I64 t) = entsC (zs.set k { zs[k] with term := t }) := by
  induction zs generalizing k with
  | nil => simp at h
  | cons z zs ih =>
    cases k with
    | zero => rfl
    | succ k =>
      have e : (k + 1) * 7 = k * 7 + 7 := by omega
      rw [e]
      have e2 : entsC (z :: zs) = I64 z.term :: U8V z.kind :: z.cmd.v :: z.cfg.v.v :: z.cfg.o.v :: z.cfg.l.v :: z.cfg.w.v :: entsC zs := rfl
      rw [e2]
      have e3 := ih k (by simpa using h)
      show I64 z.term :: U8V z.kind :: z.cmd.v :: z.cfg.v.v :: z.cfg.o.v :: z.cfg.l.v :: z.cfg.w.v :: (entsC zs).set (k * 7) (I64 t) = _
      rw [e3]
      rfl
theorem SameBut.set_ {es zs : List EntM} (h : SameBut es zs) (k : Nat) (hk : k < zs.length) (t : Int) : SameBut es (zs.set k { zs[k] with term := t }) := by
  refine ⟨by rw [List.length_set]; exact h.1, fun j h1 h2 => ?_⟩
  rw [List.getElem_set]
  split
  · rename_i e
    subst e
    exact h.2 k hk h2
  · exact h.2 j (by rwa [List.length_set] at h1) h2
theorem EntSz.of_eq {x y : EntM} (h : y.x = x.x) (hz : EntSz x) : EntSz y := by
  have h1 : y.cmd.l = x.cmd.l := congrArg Ent.cmd h
  have h2 : y.cfg.x = x.cfg.x := congrArg Ent.cfg h
  have a1 : y.cfg.v.l = x.cfg.v.l := congrArg Cfg.v h2
  have a2 : y.cfg.o.l = x.cfg.o.l := congrArg Cfg.o h2
  have a3 : y.cfg.l.l = x.cfg.l.l := congrArg Cfg.l h2
  have a4 : y.cfg.w.l = x.cfg.w.l := congrArg Cfg.w h2
  exact ⟨by rw [h1]; exact hz.cmd, ⟨by rw [a1]; exact hz.cfg.v, by rw [a2]; exact hz.cfg.o, by rw [a3]; exact hz.cfg.l, by rw [a4]; exact hz.cfg.w⟩⟩
theorem LetSz.of_eq {x y : LetM} (h : y.x = x.x) (hz : LetSz x) : LetSz y := by
  have h1 : y.ents.l.map EntM.x = x.ents.l.map EntM.x := congrArg LetF.ents h
  have h2 : y.base.cfg.x = x.base.cfg.x := congrArg (fun z : LetF => z.base.cfg) h
  have h3 : y.bytes.l = x.bytes.l := congrArg LetF.bytes h
  have a1 : y.base.cfg.v.l = x.base.cfg.v.l := congrArg Cfg.v h2
  have a2 : y.base.cfg.o.l = x.base.cfg.o.l := congrArg Cfg.o h2
  have a3 : y.base.cfg.l.l = x.base.cfg.l.l := congrArg Cfg.l h2
  have a4 : y.base.cfg.w.l = x.base.cfg.w.l := congrArg Cfg.w h2
  have hl : y.ents.l.length = x.ents.l.length := by simpa using congrArg List.length h1
  refine ⟨by rw [hl]; exact hz.ents, fun e he => ?_, ⟨by rw [a1]; exact hz.cfg.v, by rw [a2]; exact hz.cfg.o, by rw [a3]; exact hz.cfg.l, by rw [a4]; exact hz.cfg.w⟩, by rw [h3]; exact hz.bytes⟩
  have hm : e.x ∈ x.ents.l.map EntM.x := by rw [← h1]; exact List.mem_map.2 ⟨e, he, rfl⟩
  obtain ⟨f, hf, hfe⟩ := List.mem_map.1 hm
  exact EntSz.of_eq hfe.symm (hz.each f hf)
end Go.Proofs.Ytippdjaakcgeoaa
