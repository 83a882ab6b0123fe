/- Rulings: the document's numbers and texts as bytes; what grows by appends. -/
import Derived.Test.YtgmcjfjdjnoljaaRefD
import Derived.Test.YtgmcjfjdjnoljaaRulB
import Derived.Test.YtgmcjfjdjnoljaaRuA
namespace Go.Proofs.Ytgmcjfjdjnoljaa
open Go Go.RowKit

theorem OutIs.back {w w1 w2 : World} {bs : List UInt8} {v : Value} (h : OutIs w1 bs v w2) (q : Nw w w1) : OutIs w bs v w2 := by
  obtain ⟨A, c, hv, ho, hq, hA⟩ := h
  exact ⟨A, c, hv, ho, q.tr hq, fun k hk => Nat.le_trans q.size (hA k hk)⟩
set_option maxRecDepth 100000 in
theorem rnumbers_any (w : World) (F : Nat → Prop) (A : Option Addr) (c n : Nat) (ns : List Int) (h : Sl w F A (ns.map I64)) (hn : ns.length = n) (hl : n ≤ 10) (hr : ∀ x ∈ ns, Right x) :
    Calls Try.prog 56 #[.slice A n c] w fun e w' => ∃ v, e = .returned v ∧ OutIs w (encAll ns) v w' := by
  subst hn
  have hw := rwrite_any w F (fun _ => False) (fun _ => False) (fun _ => False) A none none none c 0 0 0 ns [] [] [] [] h (Sl.nil _ _ _) (Sl.nil _ _ _) (Sl.nil _ _ _) ⟨rfl, fun k hk => absurd hk (Nat.not_lt_zero _)⟩ (by omega) (by simp) (by simp [rowsLen]) (by simp [rowsLen])
  have hal : allRt ns = true := decide_eq_true fun x hx => by have := hr x hx; unfold Right topN at this; omega
  have hob : (outAll ns [] [] []).bs = encAll ns := by
    unfold outAll
    rw [wrNums_right _ _ hr]
    rfl
  go_enter Try.func56, Try.ntmps56
  go_wp2_with fail
  refine hw.mono ?_
  rintro e w1 h
  rcases h with ⟨h1, _⟩ | ⟨_, v, rfl, ho⟩
  · rw [hal] at h1; cases h1
  go_wp2_with fail
  go_ret
  exact ⟨_, rfl, by rw [← hob]; exact ho⟩
set_option maxRecDepth 100000 in
theorem rtext_any (w : World) (s : List UInt8) (hs : s.length ≤ 1000) :
    Calls Try.prog 58 #[StrV s] w fun e w' => ∃ v, e = .returned v ∧ OutIs w (rowB s) v w' := by
  have hconv := fun (w : World) (s : ByteArray) => run_bytes_of_string (P := Try.prog) w 9 57 5 s Try.underlying9 Try.underlying57 Try.underlying5
  have hsz : (⟨s.toArray⟩ : ByteArray).size = s.length := by simp [ByteArray.size]
  have hsl := fun cp => string_sl w ⟨s.toArray⟩ cp 5 ((bytesRow ⟨s.toArray⟩ cp).size, (bytesRow ⟨s.toArray⟩ cp).size + 1)
  have hrow := fun w1 cp (h : Sl w1 (· = w.heap.size) (some ⟨w.heap.size, 0, none⟩) (s.map B8)) => rrow_any w1 (· = w.heap.size) (some ⟨w.heap.size, 0, none⟩) cp s h (by omega)
  rw [← hsz] at hrow
  go_enter Try.func58, Try.ntmps58
  go_wp2_with fail
  generalize grownCap w _ 0 5 = cp
  refine (hrow _ cp (Sl.drew_ (hsl cp))).mono ?_
  rintro e w1 ⟨A1, c1, rfl, ho, q1, n1⟩
  go_wp2_with fail
  go_ret
  rw [hsz] at ho
  have e1 : ((enc s.length).length + s.length) = (rowB s).length := by unfold rowB; rw [List.length_append]
  rw [e1] at ho
  refine ⟨_, rfl, A1, c1, ?_, ho, (((Fr.refl _ w).alloc _).drew).tr q1, fun k hk => Nat.le_trans (((Fr.refl (fun _ => False) w).alloc _).drew).size (n1 k hk)⟩
  rw [← e1]; rfl
theorem rflag_out (w : World) (b : Bool) : Calls Try.prog 57 #[.bool b] w fun e w' => ∃ v, e = .returned v ∧ OutIs w (flagB b) v w' := by
  refine (rflag_any w b).mono ?_
  rintro e w1 ⟨A, c, rfl, ho, hq, hA⟩
  exact ⟨_, rfl, A, c, rfl, ho, hq, hA⟩
/-- Bytes of a slice of one's own, since a world W: they lay at A0, or in new memory. -/
def Grow (W : World) (A0 : Option Addr) (bs : List UInt8) (A : Option Addr) (n c : Nat) (w : World) : Prop :=
  Own w 5 1 A n c (bs.map B8) ∧ Fr (inA A0) W w ∧ ∀ k, inA A k → inA A0 k ∨ W.heap.size ≤ k
theorem Grow.start {W : World} {A : Option Addr} {bs : List UInt8} {n c : Nat} (h : Own W 5 1 A n c (bs.map B8)) : Grow W A bs A n c W := ⟨h, Fr.refl _ _, fun _ h => .inl h⟩
theorem Grow.call {W w w' : World} {A0 A : Option Addr} {bs : List UInt8} {n c : Nat} (h : Grow W A0 bs A n c w) (q : Nw w w') : Grow W A0 bs A n c w' :=
  ⟨h.1.fr q (fun _ _ h => h), h.2.1.tr (Nw.on q), h.2.2⟩
theorem Grow.app {W w w' : World} {A0 A A' : Option Addr} {bs y : List UInt8} {n c m c' : Nat} (h : Grow W A0 bs A n c w) (hap : AppTo w 5 1 A n c m (bs.map B8) (y.map B8) A' c' w') : Grow W A0 (bs ++ y) A' (n + m) c' w' := by
  obtain ⟨ho, _, hcase⟩ := hap
  refine ⟨by rw [List.map_append]; exact ho, ?_, fun k hk => ?_⟩
  · rcases hcase with ⟨_, _, _, hf⟩ | ⟨_, _, hf⟩
    · exact h.2.1.trans hf h.2.2
    · exact h.2.1.tr (Nw.on hf)
  · rcases hcase with ⟨_, rfl, _, _⟩ | ⟨_, rfl, _⟩
    · exact h.2.2 k hk
    · rw [(inA_some _ _).1 hk]; exact .inr h.2.1.size
theorem Grow.out {w W w1 : World} {A0 A : Option Addr} {bs : List UInt8} {n c : Nat} (h : Grow W A0 bs A n c w1) (q : Nw w W) (hA : ∀ k, inA A0 k → w.heap.size ≤ k) (hn : n = bs.length) : OutIs w bs (.slice A n c) w1 := by
  subst hn
  exact ⟨A, c, rfl, h.1, q.new h.2.1 hA, fun k hk => (h.2.2 k hk).elim (hA k) fun h => Nat.le_trans q.size h⟩
end Go.Proofs.Ytgmcjfjdjnoljaa
