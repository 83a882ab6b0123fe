/- Movers: in memory; what is told. -/
import Derived.Test.YtfglibkffcogcaaGreatMo
import Derived.Test.YtfglibkffcogcaaGreatByA
import Derived.Test.YtfglibkffcogcaaGreatRec
import Derived.Deep.DeepCutAuto
namespace Go.Proofs.YtfglibkffcogcaaGreat
open Go Go.RowKit

/-- A text, by its bytes. -/
abbrev StrV (s : List UInt8) : Value := .string ⟨s.toArray⟩
/-- An ask's fifteen cells; its kind is a value of either side's type. -/
abbrev askL (kv : Value) (a : AskT) (A : Option Addr) (c : Nat) : List Value :=
  [I64 a.tag, I64 a.group, kv, I64 0, I64 0, I64 a.ord.epoch, .slice none 0 0, .bool false, .slice none 0 0, I64 a.ord.num, I64 a.ord.stage, I64 0, StrV a.ord.lo, StrV a.ord.hi, .slice A a.ord.bytes.length c]
abbrev askA (kv : Value) (a : AskT) (A : Option Addr) (c : Nat) : Array Value :=
  #[I64 a.tag, I64 a.group, kv, I64 0, I64 0, I64 a.ord.epoch, .slice none 0 0, .bool false, .slice none 0 0, I64 a.ord.num, I64 a.ord.stage, I64 0, StrV a.ord.lo, StrV a.ord.hi, .slice A a.ord.bytes.length c]
abbrev U8V (n : Int) : Value := .int .u8 n
/-- What is told: nothing, or one ask, whose bytes lie in memory of their own. -/
def ToldV (w0 : World) (T : TypeId) (kv : Int → Value) (l : List AskT) (v : Value) (w : World) : Prop :=
  (l = [] ∧ v = .slice none 0 0) ∨ ∃ a gA A c, l = [a] ∧ v = .slice (some ⟨gA, 0, none⟩) 1 1 ∧ Blk w gA T (askA (kv a.ord.kind) a A c) ∧ Own w 5 1 A a.ord.bytes.length c (a.ord.bytes.map B8) ∧ w0.heap.size ≤ gA ∧ ∀ k, inA A k → w0.heap.size ≤ k
theorem ask_one (k : Int) (a : AskT) (A : Option Addr) (c : Nat) : (askA (U8V k) a A c).all (·.oneCell') = true := by
  rw [List.all_toArray]
  simp only [List.all_cons, List.all_nil]
  rfl
theorem ToldV.back {w w1 w2 : World} {T : TypeId} {kv : Int → Value} {l : List AskT} {v : Value} (h : ToldV w1 T kv l v w2) (hs : w.heap.size ≤ w1.heap.size) : ToldV w T kv l v w2 := by
  rcases h with h | ⟨a, gA, A, c, h1, h2, h3, h4, h5, h6⟩
  · exact .inl h
  · exact .inr ⟨a, gA, A, c, h1, h2, h3, h4, Nat.le_trans hs h5, fun k hk => Nat.le_trans hs (h6 k hk)⟩
theorem ask_size : (Tryz.prog.info? 70).map (·.size) = some 15 := by kernel_rfl
set_option maxRecDepth 100000 in
theorem told_any (w : World) (I : Nat → Prop) (g : Nat) (a : AskT) (A : Option Addr) (c : Nat) (hc : ∀ p u, (askL (U8V a.ord.kind) a A c)[p]? = some u → w.cell? ⟨g, 1 + p, none⟩ = some u) (hs : Sl w I A (a.ord.bytes.map B8)) (hz : a.ord.bytes.length ≤ 1000000000) :
    Calls Tryz.prog 52 #[.pointer (some ⟨g, 0, none⟩)] w fun e w' => ∃ v, e = .returned v ∧ ToldV w 70 U8V [a] v w' ∧ Nw w w' := by
  obtain ⟨W1, hW1⟩ : ∃ W1, W1 = w.alloc (.cells (askA (U8V a.ord.kind) a A c) 70) := ⟨_, rfl⟩
  have q1 : Nw w W1 := by rw [hW1]; exact (Fr.refl (fun _ => False) w).alloc _
  have hB1 : Blk W1 w.heap.size 70 (askA (U8V a.ord.kind) a A c) := by rw [hW1]; exact Blk.new w _ _
  have HW1 := Lib.hid hW1
  clear hW1
  have hcl := clone_u8 W1 I A c a.ord.bytes (hs.fr q1 (fun _ _ h => h)) (by omega)
  have c14 : W1.cell? ⟨w.heap.size, 14, none⟩ = some (.slice A a.ord.bytes.length c) := by simpa using hB1.cell 14
  go_enter Tryz.func52, Tryz.ntmps52
  go_upto_region 2 with (refine wl_load_cells rfl 70 _ rfl g 1 rfl (askL (U8V a.ord.kind) a A c) _ hc Tryz.underlying70 rfl ask_size ?_)
  rw [← HW1.out]
  go_wp2_with fail
  refine hcl.mono ?_
  rintro e w2 ⟨A', c', rfl, ho, q2, hA⟩
  have hB2 := hB1.fr q2 (fun h => h)
  have d14 : w2.cell? ⟨w.heap.size, 14, none⟩ = some (.slice A a.ord.bytes.length c) := by simpa using hB2.cell 14
  have e14 := hB2.frozen 14
  obtain ⟨W3, hW3⟩ : ∃ W3, W3 = w2.setCell ⟨w.heap.size, 14, none⟩ (.slice A' a.ord.bytes.length c') := ⟨_, rfl⟩
  have hB3 : Blk W3 w.heap.size 70 (askA (U8V a.ord.kind) a A' c') := by rw [hW3]; exact hB2.set_ 14 _
  have s1 := q1.size
  have q3 : Nw w W3 := by rw [hW3]; exact (q1.tr q2).setCell (p := ⟨w.heap.size, 14, none⟩) (.inr (Nat.le_refl _)) _
  have hne : ¬ inA A' w.heap.size := ho.ne_ hB2 (by decide)
  have ho3 : Own W3 5 1 A' a.ord.bytes.length c' (a.ord.bytes.map B8) := by rw [hW3]; exact ho.setCell (p := ⟨w.heap.size, 14, none⟩) hne _
  have HW3 := Lib.hid hW3
  clear hW3
  go_upto_region 3 with (fail)
  rw [← HW3.out]
  go_wp2_with (refine wpList_load_row rfl 70 _ rfl w.heap.size rfl 70 _ (0, 0) _ hB3 Tryz.underlying70 rfl ask_size ?_)
  go_ret
  refine ⟨_, rfl, .inr ⟨a, W3.heap.size, A', c', rfl, rfl, ?_, ho3.alloc _, q3.size, fun k hk => Nat.le_trans s1 (hA k hk)⟩, q3.alloc _⟩
  exact Blk.new W3 _ _
end Go.Proofs.YtfglibkffcogcaaGreat
