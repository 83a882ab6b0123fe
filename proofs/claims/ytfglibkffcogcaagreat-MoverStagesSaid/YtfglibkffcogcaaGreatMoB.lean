/- Movers: the program's mover: its line. -/
import Derived.Test.YtfglibkffcogcaaGreatMoA
import Derived.Test.YtfglibkffcogcaaGreatMid
import Derived.StillTailTactics
namespace Go.Proofs.YtfglibkffcogcaaGreat
open Go Go.RowKit

/-- An order's thirteen cells. -/
abbrev ordA (kv : Value) (o : Ord) (A : Option Addr) (c : Nat) : Array Value :=
  #[kv, I64 0, I64 0, I64 o.epoch, .slice none 0 0, .bool false, .slice none 0 0, I64 o.num, I64 o.stage, I64 0, StrV o.lo, StrV o.hi, .slice A o.bytes.length c]
/-- A mover's cells. -/
abbrev mvA (on : Bool) (a : AskT) (Ao : Option Addr) (co : Nat) (since next : Int) (wk : Bool) (x : Sch) (bs : List UInt8) (Ab : Option Addr) (cb : Nat) : Array Value :=
  #[.bool on, I64 a.tag, I64 a.group, U8V a.ord.kind, I64 0, I64 0, I64 a.ord.epoch, .slice none 0 0, .bool false, .slice none 0 0, I64 a.ord.num, I64 a.ord.stage, I64 0, StrV a.ord.lo, StrV a.ord.hi, .slice Ao a.ord.bytes.length co,
    I64 since, I64 next, .bool true, .bool wk, I64 x.num, StrV x.lo, StrV x.hi, I64 x.src, I64 x.dst, I64 x.epoch, I64 x.under, U8V x.stage, .slice Ab bs.length cb]
/-- A mover in block g; the bytes that it has lie in I. -/
def IsMv (w : World) (I : Nat → Prop) (g : Nat) (s : Mv) : Prop :=
  ∃ a Ao co x Ab cb, Blk w g 79 (mvA s.line.isSome a Ao co s.since s.next s.works.isSome x s.bytes Ab cb) ∧ (∀ b, s.line = some b → a = b) ∧ (∀ y, s.works = some y → x = y) ∧ (s.works = none → x.num = 0) ∧
    Sl w I Ao (a.ord.bytes.map B8) ∧ Sl w I Ab (s.bytes.map B8) ∧ a.ord.bytes.length ≤ 1000000000 ∧ s.bytes.length ≤ 1000000000 ∧ ¬ I g ∧ ∀ k, I k → k < w.heap.size
theorem IsMv.fr {w w' : World} {I S : Nat → Prop} {g : Nat} {s : Mv} (h : IsMv w I g s) (f : Fr S w w') (hg : ¬ S g) (hI : ∀ k, I k → ¬ S k) : IsMv w' I g s := by
  obtain ⟨a, Ao, co, x, Ab, cb, h1, h2, h3, h4, h5, h6, h7, h8, h9, h10⟩ := h
  exact ⟨a, Ao, co, x, Ab, cb, h1.fr f hg, h2, h3, h4, h5.fr f hI, h6.fr f hI, h7, h8, h9, fun k hk => Nat.lt_of_lt_of_le (h10 k hk) f.size⟩
/-- What a deed leaves and tells. -/
def MvTo (w : World) (I : Nat → Prop) (g : Nat) (r : Mv × List AskT) (v : Value) (w' : World) : Prop :=
  ToldV w 70 U8V r.2 v w' ∧ (∃ I', IsMv w' I' g r.1 ∧ ∀ k, I' k → I k ∨ w.heap.size ≤ k) ∧ Fr (· = g) w w'
set_option maxRecDepth 100000 in
set_option maxHeartbeats 2000000 in
theorem of_any (w : World) (I J : Nat → Prop) (g : Nat) (s : Mv) (h : IsMv w I g s) (group : Int) (o : Ord) (A : Option Addr) (c : Nat) (hs : Sl w J A (o.bytes.map B8)) (hJ : ¬ J g) (hz : o.bytes.length ≤ 1000000000) (hn : 0 ≤ s.next ∧ s.next ≤ 4611686018427387904) :
    Calls Tryz.prog 53 #[.pointer (some ⟨g, 0, none⟩), I64 group, .agg (ordA (U8V o.kind) o A c)] w fun e w' => ∃ v, e = .returned v ∧ MvTo w (fun k => I k ∨ J k) g (askM s group o) v w' ∧ ∀ j, w'.cell? ⟨g, j + 18, none⟩ = w.cell? ⟨g, j + 18, none⟩ := by
  obtain ⟨a, Ao, co, x, Ab, cb, h1, h2, h3, h4, h5, h6, h7, h8, h9, h10⟩ := h
  obtain ⟨W1, hW1⟩ : ∃ W1, W1 = w.alloc (.cells (ordA (U8V o.kind) o A c) 68) := ⟨_, rfl⟩
  have q1 : Nw w W1 := by rw [hW1]; exact (Fr.refl (fun _ => False) w).alloc _
  have hB1 : Blk W1 w.heap.size 68 (ordA (U8V o.kind) o A c) := by rw [hW1]; exact Blk.new w _ _
  have h11 := h1.fr q1 (fun h => h)
  have c0 : W1.cell? ⟨g, 0, none⟩ = some (.bool s.line.isSome) := by simpa using h11.cell 0
  have c16 : W1.cell? ⟨g, 16, none⟩ = some (I64 s.since) := by simpa using h11.cell 16
  have f0 := h11.frozen 0
  have f16 := h11.frozen 16
  have hgl := h1.lt
  obtain ⟨W2, hW2⟩ : ∃ W2, W2 = (W1.setCell ⟨g, 0, none⟩ (.bool true)).setCell ⟨g, 16, none⟩ (.int .i64 0) := ⟨_, rfl⟩
  have hM2 : Blk W2 g 79 (mvA true a Ao co 0 s.next s.works.isSome x s.bytes Ab cb) := by rw [hW2]; exact (h11.set_ 0 _).set_ 16 _
  have f2 : Fr (· = g) w W2 := by rw [hW2]; exact ((Nw.on q1 : Fr (· = g) w W1).set1 _ _).set1 _ _
  have hB2 : Blk W2 w.heap.size 68 (ordA (U8V o.kind) o A c) := by rw [hW2]; exact (hB1.far (by simp; omega) _).far (by simp; omega) _
  have HW1 := Lib.hid hW1
  have HW2 := Lib.hid hW2
  clear hW1 hW2
  go_enter Tryz.func53, Tryz.ntmps53
  go_upto_region 1 with (fail)
  rw [← HW1.out]
  go_upto_region 2 with (fail)
  rw [← HW2.out]
  have hD2 := hM2.drew
  have hE2 := hB2.drew
  have a17 : W2.drew.cell? ⟨g, 17, none⟩ = some (.int .i64 s.next) := by simpa using hD2.cell 17
  have b0 : W2.drew.cell? ⟨w.heap.size, 0, none⟩ = some (.int .u8 o.kind) := by simpa using hE2.cell 0
  have b1 : W2.drew.cell? ⟨w.heap.size, 1, none⟩ = some (.int .i64 0) := by simpa using hE2.cell 1
  have b2 : W2.drew.cell? ⟨w.heap.size, 2, none⟩ = some (.int .i64 0) := by simpa using hE2.cell 2
  have b3 : W2.drew.cell? ⟨w.heap.size, 3, none⟩ = some (.int .i64 o.epoch) := by simpa using hE2.cell 3
  have b4 : W2.drew.cell? ⟨w.heap.size, 4, none⟩ = some (.slice none 0 0) := by simpa using hE2.cell 4
  have b5 : W2.drew.cell? ⟨w.heap.size, 5, none⟩ = some (.bool false) := by simpa using hE2.cell 5
  have b6 : W2.drew.cell? ⟨w.heap.size, 6, none⟩ = some (.slice none 0 0) := by simpa using hE2.cell 6
  have b7 : W2.drew.cell? ⟨w.heap.size, 7, none⟩ = some (.int .i64 o.num) := by simpa using hE2.cell 7
  have b8 : W2.drew.cell? ⟨w.heap.size, 8, none⟩ = some (.int .i64 o.stage) := by simpa using hE2.cell 8
  have b9 : W2.drew.cell? ⟨w.heap.size, 9, none⟩ = some (.int .i64 0) := by simpa using hE2.cell 9
  have b10 : W2.drew.cell? ⟨w.heap.size, 10, none⟩ = some (.string ⟨o.lo.toArray⟩) := by simpa using hE2.cell 10
  have b11 : W2.drew.cell? ⟨w.heap.size, 11, none⟩ = some (.string ⟨o.hi.toArray⟩) := by simpa using hE2.cell 11
  have b12 : W2.drew.cell? ⟨w.heap.size, 12, none⟩ = some (.slice A o.bytes.length c) := by simpa using hE2.cell 12
  obtain ⟨W3, hW3⟩ : ∃ W3, W3 = W2.drew.setCells g 1 (askA (U8V o.kind) ⟨s.next, group, o⟩ A c).toList := ⟨_, rfl⟩
  have hM3 : Blk W3 g 79 (mvA true ⟨s.next, group, o⟩ A c 0 s.next s.works.isSome x s.bytes Ab cb) := by rw [hW3]; exact hD2.setCells 1 (askA (U8V o.kind) ⟨s.next, group, o⟩ A c).toList
  have f3 : Fr (· = g) w W3 := by rw [hW3]; exact f2.drew.setCells _ _
  have hth := hD2.there 1 15 (by show 1 + 15 ≤ 29; omega)
  have hone := ask_one o.kind ⟨s.next, group, o⟩ A c
  have HW3 := Lib.hid hW3
  have d17 : W3.cell? ⟨g, 17, none⟩ = some (I64 s.next) := by simpa using hM3.cell 17
  have e17 := hM3.frozen 17
  obtain ⟨W4, hW4⟩ : ∃ W4, W4 = W3.setCell ⟨g, 17, none⟩ (.int .i64 (s.next + 1)) := ⟨_, rfl⟩
  have hM4 : Blk W4 g 79 (mvA true ⟨s.next, group, o⟩ A c 0 (s.next + 1) s.works.isSome x s.bytes Ab cb) := by rw [hW4]; exact hM3.set_ 17 _
  have f4 : Fr (· = g) w W4 := by rw [hW4]; exact f3.set1 _ _
  have HW4 := Lib.hid hW4
  have hw64 : wrap64 (s.next + 1) = s.next + 1 := by unfold wrap64; omega
  have hJ2 : ∀ k, J k → ¬ (k = g) := fun k hk e => hJ (e ▸ hk)
  have hI2 : ∀ k, I k → ¬ (k = g) := fun k hk e => h9 (e ▸ hk)
  have htd := told_any W4 J g ⟨s.next, group, o⟩ A c (hM4.cells_in 1 15) (hs.fr f4 hJ2) hz
  have hA4 := (hs.fr f4 hJ2)
  have hb4 := h6.fr f4 hI2
  clear hW3 hW4
  refine wp_region_tail 10 (by kernel_rfl) (by kernel_rfl) ?_
  simp only [List.take_succ_cons, List.take_zero, List.drop_succ_cons, List.drop_zero]
  repeat still_step
  refine wpStill_nil ?_
  go_upto_region 3 with (refine wpList_store_mid rfl 70 _ _ rfl g 1 (askA (U8V o.kind) ⟨s.next, group, o⟩ A c) rfl rfl hth ask_size hone ?_)
  rw [← HW3.out]
  go_upto_region 4 with (fail)
  rw [← HW4.out]
  go_wp2_with fail
  refine htd.mono ?_
  rintro e w5 ⟨v, rfl, hv, q5⟩
  go_wp2_with fail
  go_ret
  have s4 := f4.size
  refine ⟨_, rfl, ⟨hv.back s4, ⟨fun k => (I k ∨ J k) ∧ k < w5.heap.size, ⟨⟨s.next, group, o⟩, A, c, x, Ab, cb, hM4.fr q5 (fun h => h), fun b hb => ?_, h3, h4, ?_, ?_, hz, h8, ?_, fun k hk => hk.2⟩, fun k hk => .inl hk.1⟩, f4.tr (Nw.on q5)⟩, fun j => ?_⟩
  · injection hb
  · exact (hA4.fr q5 (fun _ _ h => h)).mono fun k hk hlt => ⟨.inr hk, hlt⟩
  · exact (hb4.fr q5 (fun _ _ h => h)).mono fun k hk hlt => ⟨.inl hk, hlt⟩
  · rintro ⟨h | h, _⟩
    · exact h9 h
    · exact hJ h
  · rw [(hM4.fr q5 (fun h => h)).cell, h1.cell]
    rfl
end Go.Proofs.YtfglibkffcogcaaGreat
