/- Movers: what holds of a mover through all deeds. -/
import Derived.Test.YtfglibkffcogcaaGreatMo
namespace Go.Proofs.YtfglibkffcogcaaGreat
open Go

/-- What holds through all deeds: its next tag is N at most. -/
structure MvInv (s : Mv) (N : Int) : Prop where
  ok : MvOk s
  next : 0 ≤ s.next ∧ s.next ≤ N
  since : 0 ≤ s.since ∧ s.since ≤ 100
  tag : ∀ a, s.line = some a → 0 ≤ a.tag ∧ a.tag ≤ N
  kinds : ∀ a, s.line = some a → 0 ≤ a.ord.kind ∧ a.ord.kind ≤ 255
theorem MvInv.mono {s : Mv} {N M : Int} (h : MvInv s N) (hm : N ≤ M) : MvInv s M :=
  ⟨h.ok, ⟨h.next.1, Int.le_trans h.next.2 hm⟩, h.since, fun a ha => ⟨(h.tag a ha).1, Int.le_trans (h.tag a ha).2 hm⟩, h.kinds⟩
def MvTold (r : Mv × List AskT) (N : Int) : Prop := MvInv r.1 N ∧ ∀ a ∈ r.2, r.1.line = some a
theorem MvTold.mono {r : Mv × List AskT} {N M : Int} (h : MvTold r N) (hm : N ≤ M) : MvTold r M := ⟨h.1.mono hm, h.2⟩
theorem inv_ask {s : Mv} {N : Int} (h : MvInv s N) (hw : s.works ≠ none) (g : Int) (o : Ord) (hk : o.kind = 3 ∨ o.kind = 4 ∨ o.kind = 5 ∨ o.kind = 6 ∨ o.kind = 7 ∨ o.kind = 8 ∨ o.kind = 12) : MvTold (askM s g o) (N + 1) := by
  have h1 := h.next
  refine ⟨⟨⟨h.ok.works, fun _ => hw, fun a ha => ?_, h.ok.idle⟩, ⟨?_, ?_⟩, ⟨by show (0 : Int) ≤ 0; omega, by show (0 : Int) ≤ 100; omega⟩, fun a ha => ?_, fun a ha => ?_⟩, fun a ha => ?_⟩
  · injection ha with ha; subst ha; exact hk
  · show 0 ≤ s.next + 1; omega
  · show s.next + 1 ≤ N + 1; omega
  · injection ha with ha; subst ha; show 0 ≤ s.next ∧ s.next ≤ N + 1; omega
  · injection ha with ha; subst ha; show 0 ≤ o.kind ∧ o.kind ≤ 255; omega
  · rw [List.mem_singleton.1 ha]; rfl
theorem inv_first {s : Mv} {N : Int} (h : MvInv s N) (x : Sch) (hw : s.works = some x) : MvTold (firstM s x) (N + 1) := by
  have hne : s.works ≠ none := by rw [hw]; exact fun h => by cases h
  unfold firstM
  split
  · exact inv_ask h hne _ _ (by simp [freezeO])
  split
  · split
    · exact inv_ask h hne _ _ (by simp [freezeO])
    · exact inv_ask h hne _ _ (by simp [absorbO])
  split
  · exact inv_ask h hne _ _ (by simp [stepO])
  split
  · exact inv_ask h hne _ _ (by simp [openO])
  split
  · exact inv_ask h hne _ _ (by simp [plainO])
  split
  · exact inv_ask h hne _ _ (by simp [plainO])
  · exact inv_ask h hne _ _ (by simp [plainO])
theorem inv_since {s : Mv} {N : Int} (h : MvInv s N) (n : Int) (hn : 0 ≤ n ∧ n ≤ 100) : MvInv { s with since := n } N :=
  ⟨⟨h.ok.works, h.ok.line, h.ok.kind, h.ok.idle⟩, h.next, hn, h.tag, h.kinds⟩
theorem told_none {s : Mv} {N : Int} (h : MvInv s N) : MvTold (s, []) (N + 1) := ⟨h.mono (by omega), fun a ha => by cases ha⟩
theorem inv_tick {s : Mv} {N : Int} (h : MvInv s N) (x : Sch) (u : Bool) : MvTold (tickM s x u) (N + 1) := by
  unfold tickM
  split
  · refine ⟨⟨⟨fun x hx => (by cases hx), fun h => (h rfl).elim, fun a ha => (by cases ha), fun _ => rfl⟩, ⟨h.next.1, ?_⟩, ⟨by show (0 : Int) ≤ 0; omega, by show (0 : Int) ≤ 100; omega⟩, fun a ha => (by cases ha), fun a ha => (by cases ha)⟩, fun a ha => by cases ha⟩
    have := h.next.2
    show s.next ≤ N + 1
    omega
  · rename_i hx
    have hx2 : u = true ∧ (schOk x = true ∧ schOver x = false) := by
      cases u <;> cases h1 : schOk x <;> cases h2 : schOver x <;> simp_all
    split
    · unfold againM
      split
      · exact told_none h
      · rename_i a ha
        have h2 := h.since
        split
        · exact told_none (inv_since h _ (by omega))
        · refine ⟨(inv_since h 0 (by omega)).mono (by omega), fun b hb => ?_⟩
          rw [List.mem_singleton.1 hb]
          exact ha
    · refine inv_first (s := { s with works := some x, bytes := if sameNum s x = true then s.bytes else [] }) ⟨⟨fun y hy => ?_, fun _ h => (by cases h), h.ok.kind, fun h => (by cases h)⟩, h.next, h.since, h.tag, h.kinds⟩ x rfl
      injection hy with hy
      subst hy
      exact hx2.2
theorem inv_bytes {s : Mv} {N : Int} (h : MvInv s N) (hw : s.works ≠ none) (bs : List UInt8) : MvInv { s with bytes := bs } N :=
  ⟨⟨h.ok.works, h.ok.line, h.ok.kind, fun e => (hw e).elim⟩, h.next, h.since, h.tag, h.kinds⟩
theorem inv_answer {s : Mv} {N : Int} (h : MvInv s N) (tag err : Int) (bs : List UInt8) : MvTold (answerM s tag err bs) (N + 1) := by
  unfold answerM
  split
  · rename_i a x ha hx
    have hne : s.works ≠ none := by rw [hx]; exact fun h => by cases h
    split
    · exact told_none h
    split
    · unfold frozenM
      split
      · exact inv_ask h hne _ _ (by simp [stepO])
      split
      · exact told_none (inv_since h 0 (by omega))
      split
      · exact inv_ask (inv_bytes h hne bs) hne _ _ (by simp [stepO])
      · exact inv_ask (inv_bytes h hne bs) hne _ _ (by simp [absorbO])
    split
    · exact inv_ask h hne _ _ (by simp [stepO])
    split
    · split
      · exact inv_ask h hne _ _ (by simp [stepO])
      · refine told_none (s := { s with line := none, since := 0 }) ⟨⟨h.ok.works, fun h => (h rfl).elim, fun a ha => (by cases ha), h.ok.idle⟩, h.next, ⟨by show (0 : Int) ≤ 0; omega, by show (0 : Int) ≤ 100; omega⟩, fun a ha => (by cases ha), fun a ha => (by cases ha)⟩
    split
    · exact told_none (inv_since h 0 (by omega))
    · exact inv_ask h hne _ _ (by simp [stepO])
  · exact told_none h
theorem inv_new (n : Int) (hn : 0 ≤ n) : MvInv (newM n) (n + 1) :=
  ⟨⟨fun x hx => (by cases hx), fun h => (h rfl).elim, fun a ha => (by cases ha), fun _ => rfl⟩, ⟨by show 0 ≤ n + 1; omega, by show n + 1 ≤ n + 1; omega⟩, ⟨by show (0 : Int) ≤ 0; omega, by show (0 : Int) ≤ 100; omega⟩, fun a ha => (by cases ha), fun a ha => (by cases ha)⟩
end Go.Proofs.YtfglibkffcogcaaGreat
