/- The program's writer: what its inner functions do. -/
import Derived.Test.YtippdjaakcgeoaaProg
import Derived.Test.YtippdjaakcgeoaaWire
import Derived.Deep.QuietTactic
import Derived.BigQuiet
namespace Go.Proofs.Ytippdjaakcgeoaa
open Go Go.RowKit

theorem info_u8 : (Try.prog.info? 5).map (fun i => (i.zero, i.size, i.bytes)) = some (some (.int .u8 0), 1, 1) := by kernel_rfl

theorem size_bytes (w : World) : (sizeOf (Try.prog.elem 38)).run Try.prog w = .ok 1 w := by kernel_rfl

theorem under_bytes : Try.prog.underlying 38 = some (.slice (Try.prog.elem 38)) := by kernel_rfl

/-- Block g is a writer that has written so. -/
def IsWr (w : World) (F : Nat → Prop) (g : Nat) (s : Wr) : Prop :=
  ∃ A cap, Blk w g 117 #[.bool true, .bool (!s.ok), .slice A s.bs.length cap] ∧ Own w 5 1 A s.bs.length cap (s.bs.map B8) ∧ F g ∧ (∀ k, inA A k → F k) ∧ ∀ k, F k → k < w.heap.size

/-- What a step of a writer leaves. -/
def WrTo (w : World) (F : Nat → Prop) (g : Nat) (s : Wr) (w' : World) : Prop :=
  ∃ F', IsWr w' F' g s ∧ Fr F w w' ∧ ∀ k, F' k → F k ∨ w.heap.size ≤ k

theorem IsWr.fr {w w' : World} {F S : Nat → Prop} {g : Nat} {s : Wr} (h : IsWr w F g s) (hf : Fr S w w') (hd : ∀ k, F k → ¬ S k) : IsWr w' F g s := by
  obtain ⟨A, cap, hb, hown, hF, hFA, hlt⟩ := h
  exact ⟨A, cap, hb.fr hf (hd _ hF), hown.fr hf (fun k hk => hd k (hFA k hk)), hF, hFA, fun k hk => Nat.lt_of_lt_of_le (hlt k hk) hf.size⟩
theorem IsWr.alloc {w : World} {F : Nat → Prop} {g : Nat} {s : Wr} (h : IsWr w F g s) (o : Obj) : IsWr (w.alloc o) F g s :=
  h.fr (S := fun _ => False) ((Fr.refl _ w).alloc o) (fun _ _ h => h)
theorem IsWr.bound {w : World} {F : Nat → Prop} {g : Nat} {s : Wr} (h : IsWr w F g s) : ∀ k, F k → k < w.heap.size := by
  obtain ⟨_, _, _, _, _, _, h⟩ := h
  exact h
theorem IsWr.apartNew {w : World} {F : Nat → Prop} {g : Nat} {s : Wr} (h : IsWr w F g s) (o : Obj) : Apart (w.alloc o) (· = w.heap.size) F := fun k hk => by
  subst hk
  exact ⟨by simp, fun hF => by have := h.bound _ hF; omega⟩
theorem WrTo.alloc {w w2 : World} {F : Nat → Prop} {g : Nat} {s2 : Wr} {o : Obj} (h : WrTo (w.alloc o) F g s2 w2) : WrTo w F g s2 w2 := by
  obtain ⟨F2, h1, h2, h3⟩ := h
  exact ⟨F2, h1, ((Fr.refl F w).alloc o).tr h2, fun k hk => (h3 k hk).imp id fun h => by simp at h; omega⟩

theorem put_any (w : World) (F F2 : Nat → Prop) (g : Nat) (s : Wr) (h : IsWr w F g s) (A2 : Option Addr) (m c : Nat) (bs : List UInt8) (hm : bs.length = m) (hsl : Sl w F2 A2 (bs.map B8))
    (hsz : s.bs.length + m ≤ 1000000000000) :
    Calls Try.prog 97 #[.pointer (some ⟨g, 0, none⟩), .slice A2 m c] w fun e w' => e = .returned (.tuple #[]) ∧ WrTo w F g { s with bs := s.bs ++ bs } w' := by
  obtain ⟨A, cap, hb, hown, hF, hFA, hFlt⟩ := h
  subst hm
  have c0 := hb.cell 0
  have c2 := hb.cell 2
  simp at c0 c2
  go_enter Try.func97, Try.ntmps97
  go_wp2_with (at_builtin; refine wl_append rfl _ _ _ rfl 1 (.int .u8 0) Try.underlying38 info_u8 rfl (by decide) rfl hown rfl hsl (by simp) (B8_oneCell bs) (by omega) (by unfold maxLen; omega) ?_; intro A' cap' w1 ho hf hin; have hb1 := hb.fr hf (fun hg => hown.ne_ hb (by decide) hg); have c21 := hb1.cell 2; have f21 := hb1.frozen 2; simp at c21)
  go_end0
  refine ⟨rfl, fun k => k = g ∨ inA A' k, ⟨A', cap', ?_, ?_, .inl rfl, fun k hk => .inr hk, ?_⟩, (hf.mono fun b hb' => .inl (hFA b hb')).setCell (.inl hF) _, ?_⟩
  · have := hb1.set_ 2 (.slice A' (s.bs.length + bs.length) cap')
    simpa using this
  · have := ho.setCell (p := ⟨g, 2, none⟩) (fun hk => ho.ne_ hb1 (by decide) hk) (.slice A' (s.bs.length + bs.length) cap')
    simpa using this
  · have hz : (w1.setCell ⟨g, 2, none⟩ (.slice A' (s.bs.length + bs.length) cap')).heap.size = w1.heap.size := by simp [World.setCell]
    rw [hz]
    rintro k (rfl | hk)
    · exact hb1.lt
    · exact ho.lt k hk
  · rintro k (rfl | hk)
    · exact .inl hF
    · rcases hin k hk with h | h
      · exact .inl (hFA k h)
      · exact .inr (by omega)

theorem WrTo.trans {w w1 w2 : World} {F F1 : Nat → Prop} {g : Nat} {s2 : Wr} (hf : Fr F w w1) (hn : ∀ k, F1 k → F k ∨ w.heap.size ≤ k) (h : WrTo w1 F1 g s2 w2) : WrTo w F g s2 w2 := by
  obtain ⟨F2, h1, h2, h3⟩ := h
  refine ⟨F2, h1, hf.trans h2 hn, fun k hk => ?_⟩
  rcases h3 k hk with h | h
  · exact hn k h
  · exact .inr (Nat.le_trans hf.size h)

theorem number_bad (w : World) (F : Nat → Prop) (g : Nat) (s : Wr) (h : IsWr w F g s) (n : Int) (hn : n < 0 ∨ 4611686018427387903 < n) :
    Calls Try.prog 79 #[.pointer (some ⟨g, 0, none⟩), .int .i64 n] w fun e w' => e = .returned (.tuple #[]) ∧ WrTo w F g { s with ok := false } w' := by
  obtain ⟨A, cap, hb, hown, hF, hFA, hFlt⟩ := h
  have c1 := hb.cell 1
  have f1 := hb.frozen 1
  simp at c1
  have hfin : WrTo w F g { s with ok := false } (w.setCell ⟨g, 1, none⟩ (.bool true)) := by
    refine ⟨fun k => k = g ∨ inA A k, ⟨A, cap, ?_, hown.setCell (p := ⟨g, 1, none⟩) (fun hk => hown.ne_ hb (by decide) hk) _, .inl rfl, fun k hk => .inr hk, ?_⟩, (Fr.refl F w).setCell (.inl hF) _, ?_⟩
    · have := hb.set_ 1 (.bool true)
      simpa using this
    · have hz : (w.setCell ⟨g, 1, none⟩ (.bool true)).heap.size = w.heap.size := by simp [World.setCell]
      rw [hz]
      rintro k (rfl | hk)
      · exact hb.lt
      · exact hown.lt k hk
    · rintro k (rfl | hk)
      · exact .inl hF
      · exact .inl (hFA k hk)
  by_cases h0 : n < 0
  · go_enter Try.func79, Try.ntmps79
    go_wp2_with fail
    refine bodyPost_ret (results_none rfl _ _ _) rfl ?_
    exact ⟨rfl, hfin⟩
  · have h1 : 4611686018427387903 < n := by omega
    go_enter Try.func79, Try.ntmps79
    go_wp2_with fail
    refine bodyPost_ret (results_none rfl _ _ _) rfl ?_
    exact ⟨rfl, hfin⟩

/-- The writer's state behind some rounds of a number. -/
def NumRel (w : World) (F : Nat → Prop) (g : Nat) (s : Wr) (n : Nat) (v : Value) (wr : World) : Prop :=
  ∃ (k : Nat) (F' : Nat → Prop) (bs : List UInt8), v = .int .i64 k ∧ k ≤ topN ∧ bs.length + (enc k).length = s.bs.length + (enc n).length ∧ IsWr wr F' g { s with bs := bs } ∧ Fr F w wr ∧ (∀ k, F' k → F k ∨ w.heap.size ≤ k) ∧ bs ++ enc k = s.bs ++ enc n

theorem number_ok (w : World) (F : Nat → Prop) (g : Nat) (s : Wr) (h : IsWr w F g s) (n : Nat) (hn : n ≤ 4611686018427387903) (hsz : s.bs.length ≤ 900000000000) :
    Calls Try.prog 79 #[.pointer (some ⟨g, 0, none⟩), .int .i64 n] w fun e w' => e = .returned (.tuple #[]) ∧ WrTo w F g { s with bs := s.bs ++ enc n } w' := by
  go_enter Try.func79, Try.ntmps79
  go_wp2_with fail
  go_loopw [1] (fun v wr => NumRel w F g s n v wr) (fun v _ => (intOf v).toNat)
  case atStart => exact ⟨n, F, s.bs, rfl, hn, rfl, h, Fr.refl _ _, fun k hk => .inl hk, rfl⟩
  case round =>
    obtain ⟨k, F', bs, rfl, hk, hl, hw, hf, hF, he⟩ := hrel
    by_cases hb : 127 < k
    · have HE := Lib.hid (enc_big k (by omega) hk)
      have HL := Lib.hid hl
      have HC := Lib.hid he
      clear hl he
      have hk' := hk
      unfold topN at hk'
      go_wp2_with fail
      rw [orByte k]
      refine (put_any _ F' _ g _ (hw.alloc _) _ 1 1 [UInt8.ofNat (k % 128 + 128)] rfl ((Blk.new _ _ _).sl 0 1) ?_).mono ?_
      · show bs.length + 1 ≤ _
        have := HL.out; have := enc_len n; omega
      rintro e w2 ⟨rfl, h2⟩
      obtain ⟨F2, i2, f2, n2⟩ := h2.alloc
      go_wp2_with fail
      go_roundw
      case rel =>
        refine ⟨k / 128, F2, bs ++ [UInt8.ofNat (k % 128 + 128)], by go_num, by unfold topN; omega, ?_, i2, hf.trans f2 hF, fun j hj => ?_, ?_⟩
        · have h1 := HL.out
          rw [HE.out] at h1
          simp at h1 ⊢
          omega
        · rcases n2 j hj with h | h
          · exact hF j h
          · exact .inr (Nat.le_trans hf.size h)
        · have h1 := HC.out
          rw [HE.out] at h1
          rw [← h1]
          simp
      case measure => simp [intOf]; omega
    · have hk' := hk
      unfold topN at hk'
      have HL := Lib.hid hl
      have HC := Lib.hid he
      clear hl he
      go_wp2_with fail
      have hv : Value.int IntKind.u8 (k : Int) = B8 (UInt8.ofNat k) := by
        unfold B8; congr 1; rw [← lowByte k (by omega)]; omega
      rw [hv]
      refine (put_any _ F' _ g _ (hw.alloc _) _ 1 1 [UInt8.ofNat k] rfl ((Blk.new _ _ _).sl 0 1) ?_).mono ?_
      · show bs.length + 1 ≤ _
        have := HL.out; have := enc_len n; omega
      rintro e w2 ⟨rfl, h2⟩
      clear hv
      go_wp2_with fail
      go_end0
      refine ⟨rfl, ?_⟩
      have h1 := HC.out
      rw [enc_small k (by omega)] at h1
      rw [← h1]
      exact (h2.alloc).trans hf hF
end Go.Proofs.Ytippdjaakcgeoaa
