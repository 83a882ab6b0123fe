/- PastRuns: rows of names, each in a past of its own: one row. -/
import Derived.Test.YtoapobgnfgfobaaL17H
import Derived.Test.YtoapobgnfgfobaaKitN
import Derived.Test.YtoapobgnfgfobaaFrmN
import Derived.Deep.DeepCutAuto
namespace Go.Proofs.Ytoapobgnfgfobaa
open Go Go.RowKit

theorem LentN.names {w : World} {A : Option Addr} {ys : List Nm} (h : LentN w A ys) : Sl w (inA A) A (nmCells ys) := by
  have := h.sl.pre (k := ys.length * 2)
  rwa [← nmCells_take, List.take_left' rfl] at this
theorem LentN.fr {w w' : World} {S : Nat → Prop} {A : Option Addr} {ys : List Nm} (h : LentN w A ys) (hf : Fr S w w') (hn : ∀ k, inA A k → ¬ S k) : LentN w' A ys := Own.fr h hf hn

/-- The pasts that rows make, each its own. -/
def PSs (rs : List (List Nm)) : List Pst := rs.map fun l => raiseP l pNew
/-- What the rounds have made. -/
def RunsRel (w : World) (rs : List (List Nm)) (p m i : Value) (wr : World) : Prop :=
  ∃ (k : Nat) (gs hs : List Nat) (Ap : Option Addr) (cp : Nat) (Am : Option Addr) (cm : Nat), k ≤ rs.length ∧ i = .int .i64 k ∧ gs.length = k ∧ hs.length = k ∧ p = .slice Ap k cp ∧ m = .slice Am k cm ∧
    Own wr 27 1 Ap k cp (gs.map PtrV) ∧ Own wr 29 1 Am k cm (hs.map PtrV) ∧ ArePasts wr gs (PSs (rs.take k)) ∧ AreRPs wr hs (PSs (rs.take k)) ∧ Nw w wr ∧
    (∀ j, inA Ap j → w.heap.size ≤ j) ∧ (∀ j, inA Am j → w.heap.size ≤ j) ∧ (∀ g ∈ gs, w.heap.size ≤ g) ∧ (∀ g ∈ hs, w.heap.size ≤ g)

theorem info_PPast : (Try.prog.info? 27).map (fun i => (i.zero, i.size, i.bytes)) = some (some (.pointer none), 1, 8) := by kernel_rfl
theorem info_PRPast : (Try.prog.info? 29).map (fun i => (i.zero, i.size, i.bytes)) = some (some (.pointer none), 1, 8) := by kernel_rfl
theorem Ptr_one (l : List Nat) : ∀ u ∈ l.map PtrV, u.oneCell' = true := by
  intro u hu
  obtain ⟨_, _, rfl⟩ := List.mem_map.1 hu
  rfl
theorem ArePasts.lt {w : World} {gs : List Nat} {qs : List Pst} (h : ArePasts w gs qs) : ∀ g ∈ gs, g < w.heap.size := by
  intro g hg
  obtain ⟨k, hk, rfl⟩ := List.mem_iff_getElem.1 hg
  exact (h.2 k hk (by rw [← h.1]; exact hk)).2.lt
theorem AreRPs.lt {w : World} {gs : List Nat} {qs : List Pst} (h : AreRPs w gs qs) : ∀ g ∈ gs, g < w.heap.size := by
  intro g hg
  obtain ⟨k, hk, rfl⟩ := List.mem_iff_getElem.1 hg
  exact (h.2 k hk (by rw [← h.1]; exact hk)).2.lt
theorem ArePasts.snoc {w : World} {gs : List Nat} {qs : List Pst} (h : ArePasts w gs qs) {g : Nat} {q : Pst} (hg : IsPast w g q) : ArePasts w (gs ++ [g]) (qs ++ [q]) := by
  have hl := h.1
  refine ⟨by simp [hl], fun k h1 h2 => ?_⟩
  by_cases hk : k < gs.length
  · rw [List.getElem_append_left hk, List.getElem_append_left (by omega)]
    exact h.2 k hk (by omega)
  · have : k = gs.length := by simp at h1; omega
    subst this
    rw [List.getElem_append_right (by omega), List.getElem_append_right (by omega)]
    simpa using hg
theorem AreRPs.snoc {w : World} {gs : List Nat} {qs : List Pst} (h : AreRPs w gs qs) {g : Nat} {q : Pst} (hg : IsRP w g q) : AreRPs w (gs ++ [g]) (qs ++ [q]) := by
  have hl := h.1
  refine ⟨by simp [hl], fun k h1 h2 => ?_⟩
  by_cases hk : k < gs.length
  · rw [List.getElem_append_left hk, List.getElem_append_left (by omega)]
    exact h.2 k hk (by omega)
  · have : k = gs.length := by simp at h1; omega
    subst this
    rw [List.getElem_append_right (by omega), List.getElem_append_right (by omega)]
    simpa using hg
theorem PSs_snoc (rs : List (List Nm)) (k : Nat) (h : k < rs.length) : PSs (rs.take (k + 1)) = PSs (rs.take k) ++ [raiseP rs[k] pNew] := by
  unfold PSs
  rw [List.take_succ_eq_append_getElem h, List.map_append]
  rfl

/-- One round's end: both pasts behind the others. -/
theorem RunsRel.next {w wr w1 w2 w3 w4 : World} {rs : List (List Nm)} {k : Nat} (hk : k < rs.length) {gs hs : List Nat} {Ap Am A' A'' : Option Addr} {cp cm c' c'' gp gm : Nat}
    (hgl : gs.length = k) (hhl : hs.length = k) (ho : Own wr 27 1 Ap k cp (gs.map PtrV)) (ho2 : Own wr 29 1 Am k cm (hs.map PtrV)) (hp : ArePasts wr gs (PSs (rs.take k))) (hm : AreRPs wr hs (PSs (rs.take k))) (hq : Nw w wr)
    (hA : ∀ j, inA Ap j → w.heap.size ≤ j) (hAm : ∀ j, inA Am j → w.heap.size ≤ j) (hgw : ∀ g ∈ gs, w.heap.size ≤ g) (hhw : ∀ g ∈ hs, w.heap.size ≤ g)
    (q1 : Nw wr w1) (hgp : IsPast w1 gp (raiseP rs[k] pNew)) (hgm : IsRP w1 gm (raiseP rs[k] pNew)) (lp : wr.heap.size ≤ gp) (lm : wr.heap.size ≤ gm)
    (h1 : AppTo (w1.alloc (.cells #[PtrV gp] 27)) 27 1 Ap k cp 1 (gs.map PtrV) [PtrV gp] A' c' w2)
    (e3 : w3 = w2.alloc (.cells #[PtrV gm] 29)) (h2 : AppTo w3 29 1 Am k cm 1 (hs.map PtrV) [PtrV gm] A'' c'' w4) :
    RunsRel w rs (.slice A' (k + 1) c') (.slice A'' (k + 1) c'') (.int .i64 ((k : Int) + 1)) w4 := by
  subst e3
  have q2 : Nw wr (w1.alloc (.cells #[PtrV gp] 27)) := q1.alloc _
  obtain ⟨o1, r1, n1⟩ := h1.newOwn (hq.tr q2) hA
  have f1 := h1.fr
  have f2 := h2.fr
  have o2 := (((ho2.fr q2 (fun _ _ h => h)).fr f1 (fun j hj hh => by
    have hb := (ho.fr q2 (fun _ _ h => h))
    rcases ho2.2 with ⟨rfl, _⟩ | ⟨g, cur, rfl, hbk, _⟩
    · exact inA_none _ hj
    · have hj' := (inA_some _ _).1 hj
      subst hj'
      exact ho.ne_ hbk (by decide) hh))).alloc (.cells #[PtrV gm] 29)
  obtain ⟨o3, r3, n3⟩ := h2.newOwn (r1.alloc _) hAm
  have o4 := (o1.alloc (.cells #[PtrV gm] 29)).fr f2 (fun j hj hh => by
    rcases o1.2 with ⟨rfl, _⟩ | ⟨g, cur, rfl, hbk, _⟩
    · exact inA_none _ hj
    · have hj' := (inA_some _ _).1 hj
      subst hj'
      exact o2.ne_ (hbk.alloc _) (by decide) hh)
  have P1 := (hp.fr (q1.alloc (.cells #[PtrV gp] 27)) (fun _ _ h => h)).snoc (hgp.fr (S := fun _ => False) ((Fr.refl _ w1).alloc _) (fun h => h))
  have M1 := (hm.fr (q1.alloc (.cells #[PtrV gp] 27)) (fun _ _ h => h)).snoc (hgm.fr (S := fun _ => False) ((Fr.refl _ w1).alloc _) (fun h => h))
  have P2 := (P1.fr f1 (fun g hg hh => by
    obtain ⟨j, hj, rfl⟩ := List.mem_iff_getElem.1 hg
    have hb := (P1.2 j hj (by rw [← P1.1]; exact hj)).2
    exact (ho.fr q2 (fun _ _ h => h)).ne_ hb (by decide) hh)).fr ((Fr.refl (fun _ => False) w2).alloc (.cells #[PtrV gm] 29)) (fun _ _ h => h)
  have M2 := (M1.fr f1 (fun g hg hh => by
    obtain ⟨j, hj, rfl⟩ := List.mem_iff_getElem.1 hg
    have hb := (M1.2 j hj (by rw [← M1.1]; exact hj)).2
    exact (ho.fr q2 (fun _ _ h => h)).ne_ hb (by decide) hh)).fr ((Fr.refl (fun _ => False) w2).alloc (.cells #[PtrV gm] 29)) (fun _ _ h => h)
  have P3 := P2.fr f2 (fun g hg hh => by
    obtain ⟨j, hj, rfl⟩ := List.mem_iff_getElem.1 hg
    have hb := (P2.2 j hj (by rw [← P2.1]; exact hj)).2
    exact o2.ne_ hb (by decide) hh)
  have M3 := M2.fr f2 (fun g hg hh => by
    obtain ⟨j, hj, rfl⟩ := List.mem_iff_getElem.1 hg
    have hb := (M2.2 j hj (by rw [← M2.1]; exact hj)).2
    exact o2.ne_ hb (by decide) hh)
  have hsz := hq.size
  refine ⟨k + 1, gs ++ [gp], hs ++ [gm], A', c', A'', c'', hk, by go_num, by simp [hgl], by simp [hhl], rfl, rfl, by simpa using o4, by simpa using o3, by rw [PSs_snoc rs k hk]; exact P3, by rw [PSs_snoc rs k hk]; exact M3, r3, n1, n3, ?_, ?_⟩
  · intro g hg
    rcases List.mem_append.1 hg with h | h
    · exact hgw g h
    · have : g = gp := by simpa using h
      omega
  · intro g hg
    rcases List.mem_append.1 hg with h | h
    · exact hhw g h
    · have : g = gm := by simpa using h
      omega
end Go.Proofs.Ytoapobgnfgfobaa
