/- WireWrites: what any numbers, flags, texts, rows are as bytes is what the document tells: the walk. -/
import Derived.Test.YtoapobgnfgfobaaKitR
import Derived.Test.YtoapobgnfgfobaaApD
import Derived.Test.YtoapobgnfgfobaaL02A
import Derived.Test.YtoapobgnfgfobaaRefD
namespace Go.Proofs.Ytoapobgnfgfobaa
open Go Go.RowKit

theorem IsWr.glt {w : World} {F : Nat → Prop} {g : Nat} {s : Wr} (h : IsWr w F g s) : g < w.heap.size := by
  obtain ⟨_, _, hb, _⟩ := h
  exact hb.lt
/-- What a writer tells at its end: the bytes, the error. -/
def wOut (s : Wr) : List UInt8 × Int := if s.ok = true then (s.bs, 0) else ([], 2)
theorem wOut_len (s : Wr) : (wOut s).1.length ≤ s.bs.length := by unfold wOut; split <;> simp
theorem done_any (w : World) (F : Nat → Prop) (g : Nat) (s : Wr) (h : IsWr w F g s) (hsz : s.bs.length ≤ 1000000000000) :
    Calls Try.prog 25 #[.pointer (some ⟨g, 0, none⟩)] w fun e w' => ∃ A' c', e = .returned (.tuple #[.slice A' (wOut s).1.length c', .int .i64 (wOut s).2]) ∧ Own w' 5 1 A' (wOut s).1.length c' ((wOut s).1.map B8) ∧ Nw w w' ∧ ∀ k, inA A' k → w.heap.size ≤ k := by
  cases hok : s.ok
  · have e : wOut s = ([], 2) := by unfold wOut; rw [hok]; rfl
    rw [e]
    refine (done_bad w F g s h hok).mono fun e w' ⟨he, hw⟩ => ?_
    subst hw
    exact ⟨none, 0, he, Own.nil _ _ _, Fr.refl _ _, fun k hk => (inA_none k hk).elim⟩
  · have e : wOut s = (s.bs, 0) := by unfold wOut; rw [hok]; rfl
    rw [e]
    exact done_ok w F g s h hok hsz
theorem allRt_wr (l : List Int) (s : Wr) : (wrNums l s).ok = (s.ok && allRt l) := by
  unfold wrNums allRt
  induction l generalizing s with
  | nil => simp
  | cons n l ih =>
    rw [List.foldl_cons, ih]
    have h1 : (wrNum n s).ok = (s.ok && decide (0 ≤ n ∧ n ≤ 4611686018427387903)) := by
      unfold wrNum topN
      split
      · rename_i h
        rw [decide_eq_false (by omega)]; simp
      · rename_i h
        rw [decide_eq_true (by omega)]; simp
    rw [h1, Bool.and_assoc, ← Bool.decide_and]
    congr 2
    simp
theorem wrFlags_ok (l : List Bool) (s : Wr) : (wrFlags l s).ok = s.ok := by
  unfold wrFlags
  induction l generalizing s with
  | nil => rfl
  | cons n l ih => rw [List.foldl_cons, ih]; rfl
theorem wrRows_ok (l : List (List UInt8)) (s : Wr) : (wrRows l s).ok = s.ok := by
  unfold wrRows
  induction l generalizing s with
  | nil => rfl
  | cons n l ih => rw [List.foldl_cons, ih]; rfl
theorem outAll_ok (ns : List Int) (fs : List Bool) (ts : List ByteArray) (rs : List (List UInt8)) : (outAll ns fs ts rs).ok = allRt ns := by
  unfold outAll
  rw [wrRows_ok, wrRows_ok, wrFlags_ok, allRt_wr]
  rfl
theorem outAll_len (ns : List Int) (fs : List Bool) (ts : List ByteArray) (rs : List (List UInt8)) : (outAll ns fs ts rs).bs.length ≤ 9 * ns.length + fs.length + 9 * ts.length + rowsLen (ts.map (·.data.toList)) + 9 * rs.length + rowsLen rs := by
  unfold outAll
  have h1 := wrRows_len rs (wrRows (ts.map (·.data.toList)) (wrFlags fs (wrNums ns ⟨true, []⟩)))
  have h2 := wrRows_len (ts.map (·.data.toList)) (wrFlags fs (wrNums ns ⟨true, []⟩))
  have h3 := wrFlags_len fs (wrNums ns ⟨true, []⟩)
  have h4 := wrNums_len ns ⟨true, []⟩
  rw [List.length_map] at h2
  simp only [List.length_nil] at h4
  omega
theorem refTo_out {w w' : World} {ns : List Int} {fs : List Bool} {ts : List ByteArray} {rs : List (List UInt8)} {e : Ending} (h : RefTo w ns fs ts rs e w') :
    ∃ A c, e = .returned (.tuple #[.slice A (wOut (outAll ns fs ts rs)).1.length c, .int .i64 (wOut (outAll ns fs ts rs)).2]) ∧ Own w' 5 1 A (wOut (outAll ns fs ts rs)).1.length c ((wOut (outAll ns fs ts rs)).1.map B8) ∧ Nw w w' ∧ ∀ k, inA A k → w.heap.size ≤ k := by
  rcases h with ⟨h1, h2, h3⟩ | ⟨h1, v, h2, A, c, rfl, ho, hq, hn⟩
  · have e1 : wOut (outAll ns fs ts rs) = ([], 2) := by unfold wOut; rw [outAll_ok, h1]; rfl
    rw [e1]
    exact ⟨none, 0, h2, Own.nil _ _ _, h3, fun k hk => (inA_none k hk).elim⟩
  · have e1 : wOut (outAll ns fs ts rs) = ((outAll ns fs ts rs).bs, 0) := by unfold wOut; rw [outAll_ok, h1]; rfl
    rw [e1]
    exact ⟨A, c, h2, ho, hq, hn⟩

theorem LentRs.rowsV {w : World} {B : Option Addr} {c : Nat} {gs : List Nat} {rs : List (List UInt8)} (h : LentRs w B c gs rs) (hN : ∀ r ∈ rs, r.length ≤ 1000000000000) : RowsV w (fun j => inA B j ∨ j ∈ gs) ((List.zip gs rs).map lentV) rs := by
  obtain ⟨hl, ho, hr⟩ := h
  refine ⟨by simp [hl], fun k hk => ?_⟩
  have hk2 : k < gs.length := by omega
  refine ⟨lentV (gs[k], rs[k]), ?_, some ⟨gs[k], 0, none⟩, rs[k].length + 12, rfl, by omega, ?_, ?_⟩
  · rw [List.getElem?_map, show (List.zip gs rs)[k]? = some (gs[k], rs[k]) from List.getElem?_zip_eq_some.2 ⟨List.getElem?_eq_getElem hk2, List.getElem?_eq_getElem hk⟩]
    rfl
  · have := hN _ (List.getElem_mem hk); unfold maxLen; omega
  · exact (hr k hk2 hk).row.mono fun b hb _ => .inr (by rw [(inA_some _ _).1 hb]; exact List.getElem_mem hk2)
theorem LentRs.lt {w : World} {B : Option Addr} {c : Nat} {gs : List Nat} {rs : List (List UInt8)} (h : LentRs w B c gs rs) : ∀ j, (inA B j ∨ j ∈ gs) → j < w.heap.size := by
  obtain ⟨hl, ho, hr⟩ := h
  rintro j (hj | hj)
  · exact ho.lt j hj
  · obtain ⟨k, hk, rfl⟩ := List.mem_iff_getElem.1 hj
    have := hr k hk (by omega)
    exact Own.lt this _ ((inA_some _ _).2 rfl)

/-- Two rows in one list. -/
theorem two_rows {w : World} {A1 A2 : Option Addr} {n1 n2 c1 c2 : Nat} {b1 b2 : List UInt8} (h1 : Own w 5 1 A1 n1 c1 (b1.map B8)) (h2 : Own w 5 1 A2 n2 c2 (b2.map B8)) (hd : ∀ b, inA A1 b → ¬ inA A2 b) :
    RowsAt (w.alloc (.cells #[.slice A1 n1 c1, .slice A2 n2 c2] 43)) 2 (fun k => if k = 0 then A1 else A2) (fun k => if k = 0 then n1 else n2) (fun k => if k = 0 then c1 else c2) (fun k => if k = 0 then b1 else b2) ∧
    FarR 2 (fun k => if k = 0 then A1 else A2) ∧
    Sl (w.alloc (.cells #[.slice A1 n1 c1, .slice A2 n2 c2] 43)) (· = w.heap.size) (some ⟨w.heap.size, 0, none⟩) (hdrs 2 (fun k => if k = 0 then A1 else A2) (fun k => if k = 0 then n1 else n2) (fun k => if k = 0 then c1 else c2)) := by
  refine ⟨fun k hk => ?_, fun i j hi hj hne b => ?_, ?_⟩
  · rcases (show k = 0 ∨ k = 1 by omega) with rfl | rfl
    · exact h1.alloc _
    · exact h2.alloc _
  · rcases (show i = 0 ∨ i = 1 by omega) with rfl | rfl <;> rcases (show j = 0 ∨ j = 1 by omega) with rfl | rfl
    · exact absurd rfl hne
    · exact hd b
    · exact fun h h' => hd b h' h
    · exact absurd rfl hne
  · exact sl_new w 43 [.slice A1 n1 c1, .slice A2 n2 c2] _ rfl
theorem InR_two {A1 A2 : Option Addr} {b : Nat} (h : InR 2 (fun k => if k = 0 then A1 else A2) b) : inA A1 b ∨ inA A2 b := by
  obtain ⟨k, hk, h⟩ := h
  rcases (show k = 0 ∨ k = 1 by omega) with rfl | rfl
  · exact .inl h
  · exact .inr h
end Go.Proofs.Ytoapobgnfgfobaa
