/- Rulings: the program writes a book. -/
import Derived.Test.YtgmcjfjdjnoljaaRuP
import Derived.Test.YtgmcjfjdjnoljaaRuM
import Derived.Deep.RegionHeld3
namespace Go.Proofs.Ytgmcjfjdjnoljaa
open Go Go.RowKit

def WTo (w : World) (F : Nat → Prop) (g : Nat) (bs : List UInt8) (w' : World) : Prop := ∃ F', IsWr w' F' g ⟨true, bs⟩ ∧ Fr F w w' ∧ ∀ k, F' k → F k ∨ w.heap.size ≤ k
theorem apart_one {w : World} {F : Nat → Prop} {b : Nat} {t : TypeId} {cs : Array Value} (hb : Blk w b t cs) (hF : ¬ F b) : Apart w (· = b) F := fun k hk => by subst hk; exact ⟨hb.lt, hF⟩
theorem wn_call (w : World) (F : Nat → Prop) (g : Nat) (bs : List UInt8) (h : IsWr w F g ⟨true, bs⟩) (b n : Nat) (ns : List Int) (cs : Array Value) (hb : Blk w b 3 cs) (hF : ¬ F b) (hcs : cs.toList = ns.map I64) (hn : ns.length = n) (hn2 : n ≤ 10) (hr : ∀ x ∈ ns, Right x) (hsz : bs.length ≤ 700000000000) :
    Calls Try.prog 51 #[.pointer (some ⟨g, 0, none⟩), .slice (some ⟨b, 0, none⟩) n n] w fun e w' => e = .returned (.pointer (some ⟨g, 0, none⟩)) ∧ WTo w F g (bs ++ encAll ns) w' := by
  subst hn
  have hs := hb.sl 0 cs.size
  rw [List.drop_zero, List.take_of_length_le (by simp), hcs] at hs
  refine (numbers_any w F (· = b) g ⟨true, bs⟩ h (some ⟨b, 0, none⟩) ns.length ns hs (apart_one hb hF) (by omega) (by show bs.length ≤ _; omega)).mono ?_
  rintro e w' ⟨rfl, h2⟩
  rw [wrNums_right _ _ hr] at h2
  exact ⟨rfl, h2⟩
theorem wf_call (w : World) (F : Nat → Prop) (g : Nat) (bs : List UInt8) (h : IsWr w F g ⟨true, bs⟩) (b : Nat) (m : Bool) (hb : Blk w b 4 #[.bool m]) (hF : ¬ F b) (hsz : bs.length ≤ 700000000000) :
    Calls Try.prog 52 #[.pointer (some ⟨g, 0, none⟩), .slice (some ⟨b, 0, none⟩) 1 1] w fun e w' => e = .returned (.pointer (some ⟨g, 0, none⟩)) ∧ WTo w F g (bs ++ flagB m) w' := by
  have hs := hb.sl 0 1
  refine (flags_any w F (· = b) g ⟨true, bs⟩ h (some ⟨b, 0, none⟩) 1 [m] hs (apart_one hb hF) (by simp) (by show bs.length ≤ _; omega)).mono ?_
  rintro e w' ⟨rfl, h2⟩
  exact ⟨rfl, h2⟩
theorem wt_call (w : World) (F : Nat → Prop) (g : Nat) (bs : List UInt8) (h : IsWr w F g ⟨true, bs⟩) (b : Nat) (s : List UInt8) (hb : Blk w b 9 #[StrV s]) (hF : ¬ F b) (hs2 : s.length ≤ 20) (hsz : bs.length ≤ 700000000000) :
    Calls Try.prog 53 #[.pointer (some ⟨g, 0, none⟩), .slice (some ⟨b, 0, none⟩) 1 1] w fun e w' => e = .returned (.pointer (some ⟨g, 0, none⟩)) ∧ WTo w F g (bs ++ rowB s) w' := by
  have hs := hb.sl 0 1
  refine (texts_any w F (· = b) g ⟨true, bs⟩ h (some ⟨b, 0, none⟩) 1 [⟨s.toArray⟩] hs (apart_one hb hF) (by show bs.length + 9 * 1 + rowsLen [(⟨s.toArray⟩ : ByteArray).data.toList] ≤ _; simp [rowsLen]; omega)).mono ?_
  rintro e w' ⟨rfl, h2⟩
  have e1 : wrRows ([(⟨s.toArray⟩ : ByteArray)].map (·.data.toList)) ⟨true, bs⟩ = ⟨true, bs ++ rowB s⟩ := by simp [wrRows, wrRow, rowB]
  rw [e1] at h2
  exact ⟨rfl, h2⟩
/-- Where a block lies that was made among others just now. -/
theorem blk6 (w : World) (t : TypeId) (cs : Array Value) :
    Blk (w.alloc (.cells cs t)) w.heap.size t cs ∧ (∀ o, Blk ((w.alloc (.cells cs t)).alloc o) w.heap.size t cs) ∧ (∀ o o', Blk (((w.alloc (.cells cs t)).alloc o).alloc o') w.heap.size t cs) ∧
      (∀ o, Blk ((w.alloc o).alloc (.cells cs t)) (w.heap.size + 1) t cs) ∧ (∀ o o', Blk (((w.alloc o).alloc (.cells cs t)).alloc o') (w.heap.size + 1) t cs) ∧ ∀ o o', Blk (((w.alloc o).alloc o').alloc (.cells cs t)) (w.heap.size + 1 + 1) t cs := by
  have h4 : ∀ o, Blk ((w.alloc o).alloc (.cells cs t)) (w.heap.size + 1) t cs := fun o => by simpa using Blk.new (w.alloc o) t cs
  exact ⟨Blk.new w t cs, fun o => (Blk.new w t cs).alloc o, fun o o' => ((Blk.new w t cs).alloc o).alloc o', h4, fun o o' => (h4 o).alloc o', fun o o' => by simpa using Blk.new ((w.alloc o).alloc o') t cs⟩
theorem wkeep {w w' : World} {F F' : Nat → Prop} {b : Nat} {t : TypeId} {cs : Array Value} (hb : Blk w b t cs) (hn : ¬ F b) (hf : Fr F w w') (hF : ∀ k, F' k → F k ∨ w.heap.size ≤ k) : Blk w' b t cs ∧ ¬ F' b :=
  ⟨hb.fr hf hn, fun h => (hF b h).elim hn (fun h2 => by have := hb.lt; omega)⟩
theorem IsWr.fresh {w : World} {F : Nat → Prop} {g : Nat} {s : Wr} (h : IsWr w F g s) : ¬ F w.heap.size ∧ ¬ F (w.heap.size + 1) ∧ ¬ F (w.heap.size + 1 + 1) :=
  ⟨fun hF => by have := h.bound _ hF; omega, fun hF => by have := h.bound _ hF; omega, fun hF => by have := h.bound _ hF; omega⟩
theorem rdgB_len {r : Rdg} (h : rdgOk r = true) : (rdgB r).length ≤ 60 := by
  obtain ⟨h1, h2⟩ := rdgOk_len h
  have e1 := enc_len r.1.length
  have e2 := enc_len r.2.2.length
  unfold rdgB rowB flagB
  simp only [List.length_append, List.length_singleton]
  omega
theorem rdgsB_len (l : List Rdg) (h : ∀ r ∈ l, rdgOk r = true) : (rdgsB l).length ≤ 60 * l.length := by
  induction l with
  | nil => simp [rdgsB]
  | cons r l ih =>
    have h1 := rdgB_len (h r (by simp))
    have h2 := ih (fun x hx => h x (by simp [hx]))
    have e : rdgsB (r :: l) = rdgB r ++ rdgsB l := rfl
    rw [e, List.length_append, List.length_cons]
    omega
theorem verHd_len (v : Ver) : (encAll [v.1.1, v.1.2, v.2.2.1] ++ (flagB v.2.1 ++ enc v.2.2.2.length)).length ≤ 40 := by
  have h1 := encAll_le [v.1.1, v.1.2, v.2.2.1]
  have h2 := enc_len v.2.2.2.length
  simp only [List.length_append, flagB, List.length_cons, List.length_nil] at *
  omega
theorem verB_len {v : Ver} (h : verOk v = true) : (verB v).length ≤ 400 := by
  obtain ⟨_, _, h6, _, hr⟩ := verOk_parts h
  have h1 := rdgsB_len _ hr
  have h2 := verHd_len v
  unfold verB
  simp only [List.length_append] at *
  omega
theorem versB_len (l : List Ver) (h : ∀ v ∈ l, verOk v = true) : (versB l).length ≤ 400 * l.length := by
  induction l with
  | nil => simp [versB]
  | cons r l ih =>
    have h1 := verB_len (h r (by simp))
    have h2 := ih (fun x hx => h x (by simp [hx]))
    have e : versB (r :: l) = verB r ++ versB l := rfl
    rw [e, List.length_append, List.length_cons]
    omega
theorem versB_succ (l : List Ver) (k : Nat) (h : k < l.length) : versB (l.take (k + 1)) = versB (l.take k) ++ verB l[k] := by
  unfold versB
  rw [List.take_succ_eq_append_getElem h, List.map_append, List.flatten_append]
  simp
theorem rdgsB_succ (l : List Rdg) (k : Nat) (h : k < l.length) : rdgsB (l.take (k + 1)) = rdgsB (l.take k) ++ rdgB l[k] := by
  unfold rdgsB
  rw [List.take_succ_eq_append_getElem h, List.map_append, List.flatten_append]
  simp
def WkRel (w : World) (FW : Nat → Prop) (gw : Nat) (f : Nat → List UInt8) (n : Nat) (i : Value) (wr : World) : Prop :=
  ∃ k : Nat, k ≤ n ∧ i = .int .i64 k ∧ WTo w FW gw (f k) wr
theorem WTo.trans {w w1 w2 : World} {F F1 : Nat → Prop} {g : Nat} {bs : List UInt8} (hf : Fr F w w1) (hn : ∀ k, F1 k → F k ∨ w.heap.size ≤ k) (h : WTo w1 F1 g bs w2) : WTo w F g bs w2 := by
  obtain ⟨F2, h1, h2, h3⟩ := h
  have hs := hf.size
  exact ⟨F2, h1, hf.trans h2 hn, fun k hk => (h3 k hk).elim (hn k) (fun h => .inr (by omega))⟩
end Go.Proofs.Ytgmcjfjdjnoljaa
