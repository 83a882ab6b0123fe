/- Movers: the document's mover: in memory; what it asks. -/
import Derived.Test.YtfglibkffcogcaaGreatMoH
import Derived.Test.YtfglibkffcogcaaGreatKitB
namespace Go.Proofs.YtfglibkffcogcaaGreat
open Go Go.RowKit

/-- What the document's mover tells. -/
def ToldR (w0 : World) (I : Nat → Prop) (l : List AskT) (v : Value) (w : World) : Prop :=
  (l = [] ∧ v = .slice none 0 0) ∨ ∃ a gA A c J, l = [a] ∧ v = .slice (some ⟨gA, 0, none⟩) 1 1 ∧ Blk w gA 63 (askA (I64 a.ord.kind) a A c) ∧ Sl w J A (a.ord.bytes.map B8) ∧ a.ord.bytes.length ≤ 1000000000 ∧ w0.heap.size ≤ gA ∧ ∀ k, J k → I k ∨ w0.heap.size ≤ k
theorem ToldR.back {w w1 w2 : World} {I J : Nat → Prop} {l : List AskT} {v : Value} (h : ToldR w1 J l v w2) (hs : w.heap.size ≤ w1.heap.size) (hJ : ∀ k, J k → I k ∨ w.heap.size ≤ k) : ToldR w I l v w2 := by
  rcases h with h | ⟨a, gA, A, c, J, h1, h2, h3, h4, h5, h6, h7⟩
  · exact .inl h
  · exact .inr ⟨a, gA, A, c, J, h1, h2, h3, h4, h5, Nat.le_trans hs h6, fun k hk => (h7 k hk).elim (hJ k) (fun h => .inr (Nat.le_trans hs h))⟩
abbrev rmA (x : Sch) (wk kn : Bool) (bs : List UInt8) (Ab : Option Addr) (cb : Nat) (on : Bool) (a : AskT) (Ao : Option Addr) (co : Nat) (since next : Int) : Array Value :=
  #[I64 x.num, StrV x.lo, StrV x.hi, I64 x.src, I64 x.dst, I64 x.epoch, I64 x.under, U8V x.stage, .bool wk, .bool kn, .slice Ab bs.length cb, .bool on,
    I64 a.tag, I64 a.group, I64 a.ord.kind, I64 0, I64 0, I64 a.ord.epoch, .slice none 0 0, .bool false, .slice none 0 0, I64 a.ord.num, I64 a.ord.stage, I64 0, StrV a.ord.lo, StrV a.ord.hi, .slice Ao a.ord.bytes.length co, I64 since, I64 next]
def IsRMv (w : World) (I : Nat → Prop) (g : Nat) (s : Mv) : Prop :=
  ∃ x Ab cb a Ao co sn, Blk w g 65 (rmA x s.works.isSome (!decide (s.bytes = [])) s.bytes Ab cb s.line.isSome a Ao co sn s.next) ∧ (∀ b, s.line = some b → a = b ∧ sn = s.since) ∧ (∀ y, s.works = some y → x = y) ∧
    Sl w I Ao (a.ord.bytes.map B8) ∧ Sl w I Ab (s.bytes.map B8) ∧ a.ord.bytes.length ≤ 1000000000 ∧ s.bytes.length ≤ 1000000000 ∧ ¬ I g ∧ ∀ k, I k → k < w.heap.size
theorem IsRMv.fr {w w' : World} {I S : Nat → Prop} {g : Nat} {s : Mv} (h : IsRMv w I g s) (f : Fr S w w') (hg : ¬ S g) (hI : ∀ k, I k → ¬ S k) : IsRMv w' I g s := by
  obtain ⟨x, Ab, cb, a, Ao, co, sn, h1, h2, h3, h5, h6, h7, h8, h9, h10⟩ := h
  exact ⟨x, Ab, cb, a, Ao, co, sn, h1.fr f hg, h2, h3, h5.fr f hI, h6.fr f hI, h7, h8, h9, fun k hk => Nat.lt_of_lt_of_le (h10 k hk) f.size⟩
def RTo (w : World) (I : Nat → Prop) (g : Nat) (r : Mv × List AskT) (v : Value) (w' : World) : Prop :=
  ToldR w I r.2 v w' ∧ (∃ I', IsRMv w' I' g r.1 ∧ ∀ k, I' k → I k ∨ w.heap.size ≤ k) ∧ Fr (· = g) w w'
theorem RTo.back2 {w W w' : World} {I J : Nat → Prop} {g : Nat} {r : Mv × List AskT} {v : Value} (h : RTo W J g r v w') (f : Fr (· = g) w W) (hJ : ∀ k, J k → I k ∨ w.heap.size ≤ k) : RTo w I g r v w' := by
  obtain ⟨h1, ⟨I', h2, h3⟩, h4⟩ := h
  exact ⟨h1.back f.size hJ, ⟨I', h2, fun k hk => (h3 k hk).elim (hJ k) (fun h => .inr (Nat.le_trans f.size h))⟩, f.tr h4⟩
theorem RTo.back {w W w' : World} {I : Nat → Prop} {g : Nat} {r : Mv × List AskT} {v : Value} (h : RTo W I g r v w') (f : Fr (· = g) w W) : RTo w I g r v w' := h.back2 f fun _ h => .inl h
theorem rask_size : (Tryz.prog.info? 63).map (·.size) = some 15 := by kernel_rfl
theorem rask_one (k : Int) (a : AskT) (A : Option Addr) (c : Nat) : (askA (I64 k) a A c).all (·.oneCell') = true := by
  rw [List.all_toArray]
  simp only [List.all_cons, List.all_nil]
  rfl
set_option maxRecDepth 100000 in
set_option maxHeartbeats 2000000 in
theorem rask_any (w : World) (I J : Nat → Prop) (g : Nat) (s : Mv) (h : IsRMv w I g s) (group : Int) (o : Ord) (A : Option Addr) (c : Nat) (hs : Sl w J A (o.bytes.map B8)) (hJ : ¬ J g) (hz : o.bytes.length ≤ 1000000000) (hn : 0 ≤ s.next ∧ s.next ≤ 4611686018427387904) :
    Calls Tryz.prog 60 #[.pointer (some ⟨g, 0, none⟩), I64 group, .agg (ordA (I64 o.kind) o A c)] w fun e w' => ∃ v, e = .returned v ∧ RTo w (fun k => I k ∨ J k) g (askM s group o) v w' ∧ ∀ j, j < 11 → w'.cell? ⟨g, j, none⟩ = w.cell? ⟨g, j, none⟩ := by
  obtain ⟨x, Ab, cb, a, Ao, co, sn, h1, h2, h3, h5, h6, h7, h8, h9, h10⟩ := h
  obtain ⟨W1, hW1⟩ : ∃ W1, W1 = w.alloc (.cells (ordA (I64 o.kind) o A c) 61) := ⟨_, rfl⟩
  have q1 : Nw w W1 := by rw [hW1]; exact (Fr.refl (fun _ => False) w).alloc _
  have hB1 : Blk W1 w.heap.size 61 (ordA (I64 o.kind) o A c) := by rw [hW1]; exact Blk.new w _ _
  have h11 := h1.fr q1 (fun h => h)
  have c11 : W1.cell? ⟨g, 11, none⟩ = some (.bool s.line.isSome) := by simpa using h11.cell 11
  have f11 := h11.frozen 11
  have hgl := h1.lt
  obtain ⟨W2, hW2⟩ : ∃ W2, W2 = W1.setCell ⟨g, 11, none⟩ (.bool true) := ⟨_, rfl⟩
  have hM2 : Blk W2 g 65 (rmA x s.works.isSome (!decide (s.bytes = [])) s.bytes Ab cb true a Ao co sn s.next) := by rw [hW2]; exact h11.set_ 11 _
  have f2 : Fr (· = g) w W2 := by rw [hW2]; exact (Nw.on q1 : Fr (· = g) w W1).set1 _ _
  have hB2 : Blk W2 w.heap.size 61 (ordA (I64 o.kind) o A c) := by rw [hW2]; exact hB1.far (by simp; omega) _
  have hD2 := hM2.drew
  have hE2 := hB2.drew
  have a28 : W2.drew.cell? ⟨g, 28, none⟩ = some (.int .i64 s.next) := by simpa using hD2.cell 28
  have b0 : W2.drew.cell? ⟨w.heap.size, 0, none⟩ = some (.int .i64 o.kind) := by simpa using hE2.cell 0
  have b1 : W2.drew.cell? ⟨w.heap.size, 1, none⟩ = some (.int .i64 0) := by simpa using hE2.cell 1
  have b2 : W2.drew.cell? ⟨w.heap.size, 2, none⟩ = some (.int .i64 0) := by simpa using hE2.cell 2
  have b3 : W2.drew.cell? ⟨w.heap.size, 3, none⟩ = some (.int .i64 o.epoch) := by simpa using hE2.cell 3
  have b4 : W2.drew.cell? ⟨w.heap.size, 4, none⟩ = some (.slice none 0 0) := by simpa using hE2.cell 4
  have b5 : W2.drew.cell? ⟨w.heap.size, 5, none⟩ = some (.bool false) := by simpa using hE2.cell 5
  have b6 : W2.drew.cell? ⟨w.heap.size, 6, none⟩ = some (.slice none 0 0) := by simpa using hE2.cell 6
  have b7 : W2.drew.cell? ⟨w.heap.size, 7, none⟩ = some (.int .i64 o.num) := by simpa using hE2.cell 7
  have b8 : W2.drew.cell? ⟨w.heap.size, 8, none⟩ = some (.int .i64 o.stage) := by simpa using hE2.cell 8
  have b9 : W2.drew.cell? ⟨w.heap.size, 9, none⟩ = some (.int .i64 0) := by simpa using hE2.cell 9
  have b10 : W2.drew.cell? ⟨w.heap.size, 10, none⟩ = some (.string ⟨o.lo.toArray⟩) := by simpa using hE2.cell 10
  have b11 : W2.drew.cell? ⟨w.heap.size, 11, none⟩ = some (.string ⟨o.hi.toArray⟩) := by simpa using hE2.cell 11
  have b12 : W2.drew.cell? ⟨w.heap.size, 12, none⟩ = some (.slice A o.bytes.length c) := by simpa using hE2.cell 12
  obtain ⟨W3, hW3⟩ : ∃ W3, W3 = W2.drew.setCells g 12 (askA (I64 o.kind) ⟨s.next, group, o⟩ A c).toList := ⟨_, rfl⟩
  have hM3 : Blk W3 g 65 (rmA x s.works.isSome (!decide (s.bytes = [])) s.bytes Ab cb true ⟨s.next, group, o⟩ A c sn s.next) := by rw [hW3]; exact Blk.setCells hD2 12 (askA (I64 o.kind) ⟨s.next, group, o⟩ A c).toList
  have f3 : Fr (· = g) w W3 := by rw [hW3]; exact f2.drew.setCells _ _
  have hth := Blk.there hD2 12 15 (by show 12 + 15 ≤ 29; omega)
  have hone := rask_one o.kind ⟨s.next, group, o⟩ A c
  have d27 : W3.cell? ⟨g, 27, none⟩ = some (I64 sn) := by simpa using hM3.cell 27
  have e27 := hM3.frozen 27
  obtain ⟨W4, hW4⟩ : ∃ W4, W4 = W3.setCell ⟨g, 27, none⟩ (.int .i64 0) := ⟨_, rfl⟩
  have hM4 : Blk W4 g 65 (rmA x s.works.isSome (!decide (s.bytes = [])) s.bytes Ab cb true ⟨s.next, group, o⟩ A c 0 s.next) := by rw [hW4]; exact hM3.set_ 27 _
  have f4 : Fr (· = g) w W4 := by rw [hW4]; exact f3.set1 _ _
  have d28 : W4.cell? ⟨g, 28, none⟩ = some (I64 s.next) := by simpa using hM4.cell 28
  have e28 := hM4.frozen 28
  obtain ⟨W5, hW5⟩ : ∃ W5, W5 = W4.setCell ⟨g, 28, none⟩ (.int .i64 (s.next + 1)) := ⟨_, rfl⟩
  have hM5 : Blk W5 g 65 (rmA x s.works.isSome (!decide (s.bytes = [])) s.bytes Ab cb true ⟨s.next, group, o⟩ A c 0 (s.next + 1)) := by rw [hW5]; exact hM4.set_ 28 _
  have f5 : Fr (· = g) w W5 := by rw [hW5]; exact f4.set1 _ _
  have HW1 := Lib.hid hW1
  have HW2 := Lib.hid hW2
  have HW3 := Lib.hid hW3
  have HW4 := Lib.hid hW4
  have HW5 := Lib.hid hW5
  have hw64 : wrap64 (s.next + 1) = s.next + 1 := by unfold wrap64; omega
  have hJ2 : ∀ k, J k → ¬ (k = g) := fun k hk e => hJ (e ▸ hk)
  have hI2 : ∀ k, I k → ¬ (k = g) := fun k hk e => h9 (e ▸ hk)
  have hA5 := hs.fr f5 hJ2
  have hb5 := h6.fr f5 hI2
  have hcl : ∀ p u, ((askA (I64 o.kind) ⟨s.next, group, o⟩ A c).toList)[p]? = some u → W5.cell? ⟨g, 12 + p, none⟩ = some u := Blk.cells_in hM5 12 15
  clear hW1 hW2 hW3 hW4 hW5
  go_enter Tryz.func60, Tryz.ntmps60
  go_upto_region 1 with (fail)
  rw [← HW1.out]
  go_upto_region 2 with (fail)
  rw [← HW2.out]
  refine wp_region_tail 10 (by kernel_rfl) (by kernel_rfl) ?_
  simp only [List.take_succ_cons, List.take_zero, List.drop_succ_cons, List.drop_zero]
  repeat still_step
  refine wpStill_nil ?_
  go_upto_region 3 with (refine wpList_store_mid rfl 63 _ _ rfl g 12 (askA (I64 o.kind) ⟨s.next, group, o⟩ A c) rfl rfl hth rask_size hone ?_)
  rw [← HW3.out]
  go_upto_region 4 with (fail)
  rw [← HW4.out]
  go_upto_region 5 with (fail)
  rw [← HW5.out]
  go_wp2_with (refine wl_load_cells rfl 63 _ rfl g 12 rfl (askA (I64 o.kind) ⟨s.next, group, o⟩ A c).toList _ hcl Tryz.underlying63 rfl rask_size ?_)
  go_ret
  have q6 : Nw W5 (W5.alloc (.cells (askA (I64 o.kind) ⟨s.next, group, o⟩ A c) 63)) := (Fr.refl (fun _ => False) W5).alloc _
  have s5 := f5.size
  refine ⟨_, rfl, ⟨.inr ⟨⟨s.next, group, o⟩, W5.heap.size, A, c, J, rfl, rfl, Blk.new W5 _ _, hA5.fr q6 (fun _ _ h => h), hz, s5, fun k hk => .inl (.inr hk)⟩, ⟨fun k => (I k ∨ J k) ∧ k < W5.heap.size, ⟨x, Ab, cb, ⟨s.next, group, o⟩, A, c, 0, hM5.fr q6 (fun h => h), fun b hb => ?_, h3, ?_, ?_, hz, h8, ?_, fun k hk => Nat.lt_of_lt_of_le hk.2 q6.size⟩, fun k hk => .inl hk.1⟩, f5.tr (Nw.on q6)⟩, fun j hj => ?_⟩
  · injection hb with hb
    exact ⟨hb, rfl⟩
  · exact (hA5.mono (F' := fun k => (I k ∨ J k) ∧ k < W5.heap.size) fun k hk hlt => ⟨.inr hk, hlt⟩).fr q6 (fun _ _ h => h)
  · exact (hb5.mono (F' := fun k => (I k ∨ J k) ∧ k < W5.heap.size) fun k hk hlt => ⟨.inl hk, hlt⟩).fr q6 (fun _ _ h => h)
  · rintro ⟨h | h, _⟩
    · exact h9 h
    · exact hJ h
  · rw [(hM5.fr q6 (fun h => h)).cell, h1.cell]
    have : j = 0 ∨ j = 1 ∨ j = 2 ∨ j = 3 ∨ j = 4 ∨ j = 5 ∨ j = 6 ∨ j = 7 ∨ j = 8 ∨ j = 9 ∨ j = 10 := by omega
    rcases this with rfl | rfl | rfl | rfl | rfl | rfl | rfl | rfl | rfl | rfl | rfl <;> rfl
end Go.Proofs.YtfglibkffcogcaaGreat
