/- The program's reader: what its inner functions do. -/
import Derived.Test.YtippdjaakcgeoaaWrB
namespace Go.Proofs.Ytippdjaakcgeoaa
open Go Go.RowKit

/-- g is not of F, and F is bounded. -/
def OutF (w : World) (F : Nat → Prop) (g : Nat) : Prop := ¬ F g ∧ ∀ k, F k → k < w.heap.size
theorem OutF.fr {w w' : World} {F : Nat → Prop} {g : Nat} (h : OutF w F g) (hs : w.heap.size ≤ w'.heap.size) : OutF w' F g := ⟨h.1, fun k hk => Nat.lt_of_lt_of_le (h.2 k hk) hs⟩

/-- Block g is a reader of these bytes, which lie in F; none: it has failed. -/
def IsRd (w : World) (F : Nat → Prop) (g : Nat) : Rd → Prop
  | none => Blk w g 127 #[.bool true, .bool true, .slice none 0 0] ∧ OutF w F g
  | some bs => ∃ A cap, Blk w g 127 #[.bool true, .bool false, .slice A bs.length cap] ∧ bs.length ≤ cap ∧ cap ≤ maxLen ∧ Sl w F A (bs.map B8) ∧ OutF w F g

theorem IsRd.fr {w w' : World} {F S : Nat → Prop} {g : Nat} {s : Rd} (h : IsRd w F g s) (hf : Fr S w w') (hg : ¬ S g) (hd : ∀ k, F k → ¬ S k) : IsRd w' F g s := by
  cases s with
  | none => exact ⟨h.1.fr hf hg, h.2.fr hf.size⟩
  | some bs =>
    obtain ⟨A, cap, hb, h1, h2, h3, h4⟩ := h
    exact ⟨A, cap, hb.fr hf hg, h1, h2, h3.fr hf hd, h4.fr hf.size⟩

def RdTo (w : World) (F : Nat → Prop) (g : Nat) (s : Rd) (w' : World) : Prop := IsRd w' F g s ∧ Fr (· = g) w w'
theorem RdTo.trans {w w1 w2 : World} {F : Nat → Prop} {g : Nat} {s1 s2 : Rd} (h : RdTo w F g s1 w1) (k : RdTo w1 F g s2 w2) : RdTo w F g s2 w2 := ⟨k.1, h.2.tr k.2⟩
theorem RdTo.refl {w : World} {F : Nat → Prop} {g : Nat} {s : Rd} (h : IsRd w F g s) : RdTo w F g s w := ⟨h, Fr.refl _ _⟩

theorem fail_any (w : World) (F : Nat → Prop) (g : Nat) (s : Rd) (h : IsRd w F g s) :
    Calls Try.prog 87 #[.pointer (some ⟨g, 0, none⟩)] w fun e w' => e = .returned (.tuple #[]) ∧ RdTo w F g none w' := by
  have hh : ∃ f v, Blk w g 127 #[.bool true, f, v] ∧ OutF w F g := by
    cases s with
    | none => exact ⟨_, _, h⟩
    | some bs => obtain ⟨A, cap, hb, _, _, _, hg⟩ := h; exact ⟨_, _, hb, hg⟩
  obtain ⟨f, v, hb, hg⟩ := hh
  have c1 := hb.cell 1
  have c2 := hb.cell 2
  have f1 := hb.frozen 1
  have f2 := hb.frozen 2
  simp at c1 c2
  go_enter Try.func87, Try.ntmps87
  go_wp2
  go_end0
  refine ⟨rfl, ⟨?_, hg.fr (by simp [World.setCell])⟩, ((Fr.refl (· = g) w).setCell (p := ⟨g, 1, none⟩) (.inl rfl) _).setCell (p := ⟨g, 2, none⟩) (.inl rfl) _⟩
  have := (hb.set_ 1 (.bool true)).set_ 2 (.slice none 0 0)
  simpa using this

/-- What 'take' leaves. -/
def TakeTo (w : World) (F : Nat → Prop) (g n : Nat) (bs : List UInt8) (e : Ending) (w' : World) : Prop :=
  if bs.length < n then e = .returned (.slice none 0 0) ∧ RdTo w F g none w'
  else ∃ A', e = .returned (.slice A' n n) ∧ RdTo w F g (some (bs.drop n)) w' ∧ Sl w' F A' ((bs.take n).map B8)

theorem take_any (w : World) (F : Nat → Prop) (g : Nat) (bs : List UInt8) (h : IsRd w F g (some bs)) (n : Nat) :
    Calls Try.prog 86 #[.pointer (some ⟨g, 0, none⟩), .int .i64 n] w (TakeTo w F g n bs) := by
  have h' := h
  obtain ⟨A, cap, hb, h1, h2, h3, h4⟩ := h'
  have c2 := hb.cell 2
  have f2 := hb.frozen 2
  simp at c2
  unfold maxLen at h2
  by_cases hn : bs.length < n
  · have hp : ∀ e w', (e = .returned (.slice none 0 0) ∧ RdTo w F g none w') → TakeTo w F g n bs e w' := fun e w' h => by unfold TakeTo; rw [if_pos hn]; exact h
    refine Calls.mono ?_ hp
    go_enter Try.func86, Try.ntmps86
    go_wp2_with (go_at_call 87; refine (fail_any _ _ _ _ h).mono ?_; rintro e w1 ⟨rfl, hr⟩)
    go_ret
    exact ⟨rfl, hr⟩
  · have hn1 : n ≤ bs.length := by omega
    have hn2 : n ≤ cap := by omega
    have s1 := slice_hm (P := Try.prog) 38 under_bytes 1 size_bytes A bs.length cap n n (Nat.le_refl _) hn2
    have s2 := slice_l (P := Try.prog) 38 under_bytes 1 size_bytes A bs.length cap n hn1
    go_enter Try.func86, Try.ntmps86
    go_wp2_with fail
    go_ret
    unfold TakeTo
    rw [if_neg hn]
    refine ⟨_, rfl, ⟨⟨cutA A cap n 1, cap - n, ?_, ?_, ?_, ?_, h4.fr (by simp [World.setCell])⟩, (Fr.refl (· = g) w).setCell (p := ⟨g, 2, none⟩) (.inl rfl) _⟩, ?_⟩
    · have := hb.set_ 2 (.slice (cutA A cap n 1) (bs.length - n) (cap - n))
      simpa using this
    · simp; omega
    · unfold maxLen; omega
    · have := (h3.drop (n := bs.length) (m := cap) (s := 1) (l := n) (by simp) h1 hn1).setCell (p := ⟨g, 2, none⟩) h4.1 (.slice (cutA A cap n 1) (bs.length - n) (cap - n))
      simpa [List.map_drop] using this
    · have := (h3.pre (k := n)).setCell (p := ⟨g, 2, none⟩) h4.1 (.slice (cutA A cap n 1) (bs.length - n) (cap - n))
      rw [← List.map_take] at this
      simpa using this
theorem IsRd.out {w : World} {F : Nat → Prop} {g : Nat} {s : Rd} (h : IsRd w F g s) : OutF w F g := by
  cases s with
  | none => exact h.2
  | some bs => obtain ⟨_, _, _, _, _, _, h⟩ := h; exact h
theorem IsRd.lt {w : World} {F : Nat → Prop} {g : Nat} {s : Rd} (h : IsRd w F g s) : g < w.heap.size := by
  cases s with
  | none => exact h.1.lt
  | some bs => obtain ⟨_, _, hb, _⟩ := h; exact hb.lt
end Go.Proofs.Ytippdjaakcgeoaa
