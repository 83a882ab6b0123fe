/- MoverStages: the walk. -/
import Derived.Test.YtfglibkffcogcaaGreatStA
namespace Go.Proofs.YtfglibkffcogcaaGreat
open Go Go.RowKit

/-- An answer, and where its bytes lie. -/
abbrev Ans := AnT × Option Addr × Nat
def ansF (a : Ans) : List Value := (anA a.1 a.2.1 a.2.2).toList
def ansC (l : List Ans) : List Value := (l.map ansF).flatten
def AnsIn (w : World) (F : Nat → Prop) (a : Ans) : Prop := Sl w F a.2.1 (a.1.bytes.map B8) ∧ a.1.bytes.length ≤ maxLen ∧ a.1.nr ≤ maxLen
abbrev an0 : AnT := ⟨0, 0, 0, false, false, none, 0, 0, 0, 0, []⟩
theorem own_zero {w : World} {A : Option Addr} {n : Nat} (h : Own w 5 1 A n n (List.replicate n (.int .u8 0))) : ∃ bs : List UInt8, bs.length = n ∧ Sl w (inA A) A (bs.map B8) :=
  ⟨List.replicate n 0, by simp, by rw [List.map_replicate]; exact Own.sl h⟩
/-- The law's six answers. -/
def answers (al gA gB : Nat) (b4 b5 : List UInt8) : List Ans := [(an0, none, 0), ({ an0 with err := 8 }, none, 0), ({ an0 with bytes := [1, 2] }, some ⟨gA, 0, none⟩, 2), ({ an0 with err := 26, bytes := [3] }, some ⟨gB, 0, none⟩, 1), ({ an0 with bytes := b4 }, some ⟨al, 0, none⟩, 65537), ({ an0 with bytes := b5 }, some ⟨al, 0, none⟩, 65537)]
abbrev ans54 (al gA gB : Nat) : Array Value := #[.int .i64 0, .int .i64 0, .int .i64 0, .bool false, .bool false, .slice none 0 0, .int .i64 0, .int .i64 0, .slice none 0 0, .int .i64 8, .int .i64 0, .int .i64 0, .bool false, .bool false, .slice none 0 0, .int .i64 0, .int .i64 0, .slice none 0 0, .int .i64 0, .int .i64 0, .int .i64 0, .bool false, .bool false, .slice none 0 0, .int .i64 0, .int .i64 0, .slice (some ⟨gA, 0, none⟩) 2 2, .int .i64 26, .int .i64 0, .int .i64 0, .bool false, .bool false, .slice none 0 0, .int .i64 0, .int .i64 0, .slice (some ⟨gB, 0, none⟩) 1 1, .int .i64 0, .int .i64 0, .int .i64 0, .bool false, .bool false, .slice none 0 0, .int .i64 0, .int .i64 0, .slice (some ⟨al, 0, none⟩) 65536 65537, .int .i64 0, .int .i64 0, .int .i64 0, .bool false, .bool false, .slice none 0 0, .int .i64 0, .int .i64 0, .slice (some ⟨al, 0, none⟩) 65537 65537]
theorem answers_cells (al gA gB : Nat) (b4 b5 : List UInt8) (h4 : b4.length = 65536) (h5 : b5.length = 65537) : (ansC (answers al gA gB b4 b5)).toArray = ans54 al gA gB := by
  simp [ansC, answers, ansF, h4, h5]
theorem Blk.sl2 {w : World} {F : Nat → Prop} {g : Nat} {t : TypeId} {cs : List Value} (h : Blk w g t cs.toArray) (hF : F g) : Sl w F (some ⟨g, 0, none⟩) cs :=
  .inr ⟨g, 0, rfl, hF, h.lt, fun j u hu => by rw [Nat.zero_add, h.cell]; simpa using hu⟩
theorem Sl.take2 {w : World} {F : Nat → Prop} {A : Option Addr} {cs : List Value} (h : Sl w F A cs) (n : Nat) : Sl w F A (cs.take n) := by
  rcases h with h | ⟨b, o, hA, hF, hb, hc⟩
  · exact .inl (by rw [h]; simp)
  · refine .inr ⟨b, o, hA, hF, hb, fun j u hu => hc j u ?_⟩
    rw [List.getElem?_take] at hu
    split at hu
    · exact hu
    · cases hu
theorem ans_world (w1 V : World) (al : Nat) (lb : List UInt8) (hlb : lb.length = 65537) (_hal : al < w1.heap.size) (hs : Sl w1 (inA (some ⟨al, 0, none⟩)) (some ⟨al, 0, none⟩) (lb.map B8))
    (hV : V = ((w1.alloc (.cells #[.int .u8 1, .int .u8 2] 5)).alloc (.cells #[.int .u8 3] 5)).alloc (.cells (ans54 al w1.heap.size (w1.heap.size + 1)) 41)) :
    ∃ L : List Ans, Blk V (w1.heap.size + 1 + 1) 41 (ansC L).toArray ∧ L.length = 6 ∧ (∀ a ∈ L, AnsIn V (· < V.heap.size) a) ∧ Nw w1 V := by
  have qa : Nw w1 (w1.alloc (.cells #[.int .u8 1, .int .u8 2] 5)) := (Fr.refl (fun _ => False) w1).alloc _
  have qb := qa.alloc (.cells #[.int .u8 3] 5)
  have qc := qb.alloc (.cells (ans54 al w1.heap.size (w1.heap.size + 1)) 41)
  rw [← hV] at qc
  have q1c : Nw (w1.alloc (.cells #[.int .u8 1, .int .u8 2] 5)) V := by rw [hV]; exact ((Fr.refl (fun _ => False) _).alloc _).alloc _
  have q2c : Nw ((w1.alloc (.cells #[.int .u8 1, .int .u8 2] 5)).alloc (.cells #[.int .u8 3] 5)) V := by rw [hV]; exact (Fr.refl (fun _ => False) _).alloc _
  have hsz : V.heap.size = w1.heap.size + 3 := by rw [hV]; simp
  have b1 : Blk (w1.alloc (.cells #[.int .u8 1, .int .u8 2] 5)) w1.heap.size 5 #[.int .u8 1, .int .u8 2] := Blk.new w1 _ _
  have b2 : Blk ((w1.alloc (.cells #[.int .u8 1, .int .u8 2] 5)).alloc (.cells #[.int .u8 3] 5)) (w1.heap.size + 1) 5 #[.int .u8 3] := by
    have := Blk.new (w1.alloc (.cells #[.int .u8 1, .int .u8 2] 5)) 5 #[.int .u8 3]
    simpa using this
  have b3 : Blk V (w1.heap.size + 1 + 1) 41 (ans54 al w1.heap.size (w1.heap.size + 1)) := by
    have := Blk.new ((w1.alloc (.cells #[.int .u8 1, .int .u8 2] 5)).alloc (.cells #[.int .u8 3] 5)) 41 (ans54 al w1.heap.size (w1.heap.size + 1))
    rw [← hV] at this
    simpa using this
  have b1c := b1.fr q1c (fun h => h)
  have b2c := b2.fr q2c (fun h => h)
  have hsV := (hs.mono (F' := (· < V.heap.size)) fun b hb _ => by have h2 : b = al := (inA_some _ _).1 hb; omega).fr qc (fun _ _ h => h)
  refine ⟨answers al w1.heap.size (w1.heap.size + 1) (lb.take 65536) lb, by rw [answers_cells _ _ _ _ _ (by rw [List.length_take, hlb]; rfl) hlb]; exact b3, rfl, fun a ha => ?_, qc⟩
  have hm : (65537 : Nat) ≤ maxLen := by unfold maxLen; omega
  have z : ∀ (F : Nat → Prop) (A : Option Addr), Sl V F A [] := fun _ _ => .inl rfl
  simp only [answers, List.mem_cons, List.not_mem_nil, or_false] at ha
  rcases ha with rfl | rfl | rfl | rfl | rfl | rfl
  · exact ⟨z _ _, Nat.zero_le _, Nat.zero_le _⟩
  · exact ⟨z _ _, Nat.zero_le _, Nat.zero_le _⟩
  · exact ⟨b1c.sl2 (by omega), Nat.le_trans (by decide : (2 : Nat) ≤ 65537) hm, Nat.zero_le _⟩
  · exact ⟨b2c.sl2 (by omega), Nat.le_trans (by decide : (1 : Nat) ≤ 65537) hm, Nat.zero_le _⟩
  · refine ⟨?_, ?_, Nat.zero_le _⟩
    · show Sl V _ _ ((lb.take 65536).map B8)
      rw [List.map_take]
      exact hsV.take2 65536
    · show (lb.take 65536).length ≤ _
      rw [List.length_take]; omega
  · exact ⟨hsV, by show lb.length ≤ _; omega, Nat.zero_le _⟩
theorem ans_cell {w : World} {g : Nat} {L : List Ans} (h : Blk w g 41 (ansC L).toArray) {i : Nat} (hi : i < L.length) : ∀ p u, ((anA L[i].1 L[i].2.1 L[i].2.2).toList)[p]? = some u → w.cell? ⟨g, i * 9 + p, none⟩ = some u := fun p u hu => by
  have hp : p < 9 := by
    rcases Nat.lt_or_ge p 9 with h | h
    · exact h
    · rw [List.getElem?_eq_none (by exact h)] at hu; cases hu
  rw [h.cell]
  have e := flat_at ansF 9 L (fun _ _ => rfl) i p hi hp
  rw [List.getElem?_toArray]
  exact e.trans hu
theorem blk_range {w w' : World} {g : Nat} {t : TypeId} {cs : List Value} (h : Blk w g t cs.toArray) (q : Nw w w') : w'.rangeAt g 0 cs := fun j v hj => by
  rw [Nat.zero_add, (h.fr q (fun h => h)).cell]
  simpa using hj
theorem range_of {w w' : World} {g o : Nat} {cs : List Value} (h : ∀ p u, cs[p]? = some u → w.cell? ⟨g, o + p, none⟩ = some u) (q : Nw w w') : w'.rangeAt g o cs := fun j v hj =>
  (q.cell (World.block_lt_of_cell? w _ (h j v hj)) (fun h => h)).trans (h j v hj)
abbrev zM : Array Value := #[.bool false, I64 0, I64 0, .int .u8 0, I64 0, I64 0, I64 0, .slice none 0 0, .bool false, .slice none 0 0, I64 0, I64 0, I64 0, .string ⟨#[]⟩, .string ⟨#[]⟩, .slice none 0 0, I64 0, I64 0, .bool false, .bool false, I64 0, .string ⟨#[]⟩, .string ⟨#[]⟩, I64 0, I64 0, I64 0, I64 0, .int .u8 0, .slice none 0 0]
theorem info_deed : (Tryz.prog.info? 43).map (fun i => (i.zero, i.size)) = some (some (.agg zD), 20) := by kernel_rfl
theorem deeds20 (ds : List Deed) : ∀ v ∈ ds.map deedF, v.length = 20 := fun v hv => by
  obtain ⟨d, _, rfl⟩ := List.mem_map.1 hv
  rfl
theorem DeedIn.nw {w w' : World} {F : Nat → Prop} {d : Deed} (h : DeedIn w F d) (f : Nw w w') : DeedIn w' F d := ⟨h.bytes.fr f (fun _ _ h => h), h.blen, h.rlen, h.llen, h.hlen, h.stage, h.kind, h.less⟩
theorem u8_wrap_in (z : Int) (h : 0 ≤ z ∧ z ≤ 255) : IntKind.u8.wrap z = z := by simp [IntKind.wrap, IntKind.signed, IntKind.bits]; omega
theorem runs_of (W : World) (F2 : Nat → Prop) (ds : List Deed) (n : Nat) (hn : ds.length = n) (hn2 : n ≤ 100) (hz : ∀ d ∈ ds, DeedIn W F2 d) (i : Int) (hi : 0 ≤ i ∧ i ≤ 100) (w' : World) (F : Nat → Prop) (A : Option Addr) (q : Nw W w') (h : Sl w' F A (deedsC ds)) :
    Calls Tryz.prog 3 #[.int .i64 i, .slice A n n] w' fun e w'' => e = .returned (.bool true) ∧ Nw w' w'' := by
  subst hn
  exact runs_walk w' F F2 i A ds.length ds h (fun d hd => (hz d hd).nw q) (by omega) (by omega)
theorem in18 {W : World} {F : Nat → Prop} {tk bk nk a b : Deed} (h1 : DeedIn W F tk) (h2 : DeedIn W F bk) (h3 : DeedIn W F nk) (h4 : DeedIn W F a) (h5 : DeedIn W F b) : ∀ d ∈ [tk, tk, bk, tk, nk, a, nk, tk, tk, tk, tk, tk, bk, bk, tk, b, nk, tk], DeedIn W F d := fun d hd => by
  simp only [List.mem_cons, List.not_mem_nil, or_false] at hd
  rcases hd with rfl | rfl | rfl | rfl | rfl | rfl | rfl | rfl | rfl | rfl | rfl | rfl | rfl | rfl | rfl | rfl | rfl | rfl <;> assumption
theorem in10 {W : World} {F : Nat → Prop} {tk bk nk a b : Deed} (h1 : DeedIn W F tk) (h2 : DeedIn W F bk) (h3 : DeedIn W F nk) (h4 : DeedIn W F a) (h5 : DeedIn W F b) : ∀ d ∈ [tk, bk, a, nk, nk, b, bk, tk, nk, bk], DeedIn W F d := fun d hd => by
  simp only [List.mem_cons, List.not_mem_nil, or_false] at hd
  rcases hd with rfl | rfl | rfl | rfl | rfl | rfl | rfl | rfl | rfl | rfl <;> assumption
theorem in7 {W : World} {F : Nat → Prop} {tk a b c d : Deed} (h1 : DeedIn W F tk) (h2 : DeedIn W F a) (h3 : DeedIn W F b) (h4 : DeedIn W F c) (h5 : DeedIn W F d) : ∀ x ∈ [tk, a, b, tk, c, tk, d], DeedIn W F x := fun x hd => by
  simp only [List.mem_cons, List.not_mem_nil, or_false] at hd
  rcases hd with rfl | rfl | rfl | rfl | rfl | rfl | rfl <;> assumption
/-- A handoff with little text. -/
def SmallS (x : Sch) : Prop := x.lo.length ≤ maxLen ∧ x.hi.length ≤ maxLen ∧ 0 ≤ x.stage ∧ x.stage ≤ 255
abbrev odd40 (x : Sch) : Array Value := #[I64 0, .string ⟨#[]⟩, .string ⟨#[]⟩, I64 0, I64 0, I64 0, I64 0, .int .u8 0, I64 x.num, StrV x.lo, StrV x.hi, I64 x.src, I64 x.dst, I64 x.epoch, I64 x.under, U8V x.stage, I64 x.num, StrV x.lo, StrV x.hi, I64 x.src, I64 x.dst, I64 x.epoch, I64 x.under, U8V x.stage, I64 x.num, StrV x.lo, StrV x.hi, I64 x.src, I64 x.dst, I64 x.epoch, I64 x.under, U8V x.stage, I64 x.num, StrV x.lo, StrV x.hi, I64 x.src, I64 x.dst, I64 x.epoch, I64 x.under, U8V x.stage]
/-- The law's five odd handoffs. -/
def odds (x : Sch) : List Sch := [⟨0, [], [], 0, 0, 0, 0, 0⟩, { x with num := 0 }, { x with dst := 1 }, { x with under := 9 }, { x with lo := [98], hi := [97] }]
def schF (x : Sch) : List Value := (schA x).toList
def schC (l : List Sch) : List Value := (l.map schF).flatten
theorem odds_small (x : Sch) (h : SmallS x) : ∀ y ∈ odds x, SmallS y := fun y hy => by
  simp only [odds, List.mem_cons, List.not_mem_nil, or_false] at hy
  have hm : (1 : Nat) ≤ maxLen := by unfold maxLen; omega
  rcases hy with rfl | rfl | rfl | rfl | rfl
  · exact ⟨Nat.zero_le _, Nat.zero_le _, by show (0 : Int) ≤ 0; omega, by show (0 : Int) ≤ 255; omega⟩
  · exact h
  · exact h
  · exact h
  · exact ⟨hm, hm, h.2.2⟩
theorem sch_cells {w : World} {g : Nat} {t : TypeId} {L : List Sch} (h : Blk w g t (schC L).toArray) {i : Nat} (hi : i < L.length) : ∀ p u, (schF L[i])[p]? = some u → w.cell? ⟨g, i * 8 + p, none⟩ = some u := fun p u hu => by
  have hp : p < 8 := by
    rcases Nat.lt_or_ge p 8 with h | h
    · exact h
    · rw [List.getElem?_eq_none (by exact h)] at hu; cases hu
  rw [h.cell]
  have e := flat_at schF 8 L (fun _ _ => rfl) i p hi hp
  rw [List.getElem?_toArray]
  exact e.trans hu
def StRel (V : World) (n : Nat) (i : Value) (wx : World) : Prop := ∃ s : Nat, s ≤ n ∧ i = .int .i64 s ∧ Nw V wx
theorem hand_small (s : Int) (h : 0 ≤ s ∧ s ≤ 255) : SmallS (hand s) := ⟨by show 1 ≤ maxLen; unfold maxLen; omega, Nat.zero_le _, h⟩
theorem in_tick (w : World) (F : Nat → Prop) (x : Sch) (on : Bool) (h : SmallS x) (k : Int) (hk : 0 ≤ k ∧ k ≤ 9) : DeedIn w F ⟨k, x, on, 0, an0, none, 0⟩ :=
  ⟨.inl rfl, Nat.zero_le _, Nat.zero_le _, h.1, h.2.1, h.2.2, by show -9223372036854775808 ≤ k ∧ k ≤ 9223372036854775807; omega, by show -9223372036854775808 ≤ (0 : Int) ∧ (0 : Int) ≤ 9223372036854775807; omega⟩
theorem in_tick0 (w : World) (F : Nat → Prop) (k : Int) (hk : 0 ≤ k ∧ k ≤ 9) : DeedIn w F ⟨k, ⟨0, [], [], 0, 0, 0, 0, 0⟩, false, 0, an0, none, 0⟩ :=
  in_tick w F ⟨0, [], [], 0, 0, 0, 0, 0⟩ false ⟨Nat.zero_le _, Nat.zero_le _, by show (0 : Int) ≤ 0; omega, by show (0 : Int) ≤ 255; omega⟩ k hk
theorem in_back {w : World} {F : Nat → Prop} {a : Ans} (h : AnsIn w F a) (k l : Int) (hk : 0 ≤ k ∧ k ≤ 9) (hl : 0 ≤ l ∧ l ≤ 9) : DeedIn w F ⟨k, ⟨0, [], [], 0, 0, 0, 0, 0⟩, false, l, a.1, a.2.1, a.2.2⟩ :=
  ⟨h.1, h.2.1, h.2.2, Nat.zero_le _, Nat.zero_le _, by show (0 : Int) ≤ 0 ∧ (0 : Int) ≤ 255; omega, by show -9223372036854775808 ≤ k ∧ k ≤ 9223372036854775807; omega, by show -9223372036854775808 ≤ l ∧ l ≤ 9223372036854775807; omega⟩
set_option maxRecDepth 100000 in
set_option maxHeartbeats 8000000 in
theorem stages_walk (w : World) : Calls Tryz.prog 4 #[] w fun e w' => e = .returned (.bool true) ∧ Nw w w' := by
  go_enter Tryz.func4, Tryz.ntmps4
  go_upto_region 2 with (at_make; refine wl_make rfl _ _ _ rfl 1 (.int .u8 0) Tryz.underlying39 info_u8 rfl .i64 .i64 _ _ 65537 rfl rfl rfl rfl (by omega) (by unfold maxLen; omega) ?_; intro w1 ho1 q1; have hal1 := ho1.lt _ ((inA_some _ _).2 rfl); obtain ⟨lb, hlb, hs1⟩ := own_zero ho1; clear ho1)
  go_upto_region 3 with (fail)
  obtain ⟨V, hV⟩ : ∃ V, V = ((w1.alloc (.cells #[.int .u8 1, .int .u8 2] 5)).alloc (.cells #[.int .u8 3] 5)).alloc (.cells (ans54 w.heap.size w1.heap.size (w1.heap.size + 1)) 41) := ⟨_, rfl⟩
  rw [← hV]
  obtain ⟨L, hA, hL6, hL, qV⟩ := ans_world w1 V w.heap.size lb hlb hal1 hs1 hV
  obtain ⟨gI, hgI⟩ : ∃ g, g = w1.heap.size + 1 + 1 := ⟨_, rfl⟩
  rw [← hgI] at hA ⊢
  obtain ⟨al, hal⟩ : ∃ g, g = w.heap.size := ⟨_, rfl⟩
  rw [← hal]
  have qwV := q1.tr qV
  clear hV hgI hal hs1 hlb q1 qV
  go_wp2_with fail
  go_loopw [3] (fun i wx => StRel V 11 i wx) (fun i _ => 11 - (intOf i).toNat)
  case atStart => exact ⟨0, by omega, rfl, Fr.refl _ _⟩
  case round =>
    obtain ⟨s, hs, rfl, hfr⟩ := hrel
    by_cases hlt : s < 11
    · have hi0 : (s : Int) < 11 := by omega
      have hh := handoff_any wr s (by omega)
      obtain ⟨x, hx, hxs⟩ : ∃ x, hand s = x ∧ SmallS x := ⟨_, rfl, hand_small s (by omega)⟩
      rw [hx] at hh
      clear hx
      go_wp2_with fail
      refine hh.mono ?_
      rintro e w2 ⟨rfl, q2⟩
      go_upto_region 7 with (fail)
      obtain ⟨g4, hg4⟩ : ∃ g, g = w2.heap.size := ⟨_, rfl⟩
      obtain ⟨W3, hW3⟩ : ∃ W3, W3 = w2.alloc (.cells (schA x) 34) := ⟨_, rfl⟩
      have q3 : Nw w2 W3 := by rw [hW3]; exact (Fr.refl (fun _ => False) w2).alloc _
      have b4 : Blk W3 g4 34 (schA x) := by rw [hW3, hg4]; exact Blk.new w2 _ _
      rw [← hW3, ← hg4]
      obtain ⟨W4, hW4⟩ : ∃ W0, W0 = W3.alloc (.cells zD 43) := ⟨_, rfl⟩
      have q4 : Nw W3 W4 := by rw [hW4]; exact (Fr.refl (fun _ => False) W3).alloc _
      have d4 : Blk W4 W3.heap.size 43 zD := by rw [hW4]; exact Blk.new W3 _ _
      obtain ⟨W5, hW5⟩ : ∃ W1, W1 = W4.setCells W3.heap.size 0 (deedL ⟨0, x, true, 0, an0, none, 0⟩).toArray.toList := ⟨_, rfl⟩
      have q5 : Nw W3 W5 := by rw [hW5]; exact q4.new ((Fr.refl (· = W3.heap.size) W4).setCells _ _) (fun b hb => by omega)
      have d5 : Blk W5 W3.heap.size 43 (deedL ⟨0, x, true, 0, an0, none, 0⟩).toArray := by rw [hW5]; exact Blk.setCells d4 0 (deedL ⟨0, x, true, 0, an0, none, 0⟩)
      have hth := Blk.there d4 0 20 (by show 0 + 20 ≤ 20; omega)
      have hone := deed_one ⟨0, x, true, 0, an0, none, 0⟩
      have hcl4 : ∀ p u, ((schA x).toList)[p]? = some u → W3.cell? ⟨g4, 0 + p, none⟩ = some u := Blk.cells_in b4 0 8
      have HW4 := Lib.hid hW4
      have HW5 := Lib.hid hW5
      clear hW3 hg4 hW4 hW5 d4
      go_upto_region 8 with (first | (refine wl_load_cells rfl 34 _ rfl g4 0 rfl (schA x).toList _ hcl4 Tryz.underlying34 rfl sch_size ?_) | (rw [← HW4.out]; refine wpList_store_mid rfl 43 _ _ rfl W3.heap.size 0 (deedL ⟨0, x, true, 0, an0, none, 0⟩).toArray rfl rfl hth deed_size hone ?_))
      rw [← HW5.out]
      obtain ⟨g5, hg5⟩ : ∃ g, g = W3.heap.size := ⟨_, rfl⟩
      rw [← hg5] at d5 ⊢
      obtain ⟨tk, htk⟩ : ∃ tk : Deed, tk = ⟨0, x, true, 0, an0, none, 0⟩ := ⟨_, rfl⟩
      have t5 : Blk W5 g5 43 (deedF tk).toArray := by rw [htk]; exact d5
      have itk : DeedIn V (· < V.heap.size) tk := by rw [htk]; exact in_tick V _ x true hxs 0 (by omega)
      have qV5 : Nw V W5 := ((hfr.tr q2).tr q3).tr q5
      have b45 := b4.fr q5 (fun h => h)
      have A5 := hA.fr qV5 (fun h => h)
      clear hg5 htk d5 HW4 HW5 hth hone hcl4 q4 b4
      go_wp2_with fail
      go_loopw [6] (fun i wx => StRel W5 6 i wx) (fun i _ => 6 - (intOf i).toNat)
      case atStart => exact ⟨0, by omega, rfl, Fr.refl _ _⟩
      case round =>
        obtain ⟨i, hi, rfl, f2⟩ := hrel
        by_cases hi6 : i < 6
        · have hi0 : (i : Int) < 6 := by omega
          go_wp2_with fail
          go_loopw [7] (fun k wx => StRel W5 6 k wx) (fun k _ => 6 - (intOf k).toNat)
          case atStart => exact ⟨0, by omega, rfl, f2⟩
          case round =>
            obtain ⟨k, hk, rfl, f3⟩ := hrel
            by_cases hk6 : k < 6
            · have hk0 : (k : Int) < 6 := by omega
              have b4r := b45.fr f3 (fun h => h)
              have hcl4 : ∀ p u, ((schA x).toList)[p]? = some u → wr.cell? ⟨g4, 0 + p, none⟩ = some u := Blk.cells_in b4r 0 8
              go_upto_region 15 with (refine wl_load_cells rfl 34 _ rfl g4 0 rfl (schA x).toList _ hcl4 Tryz.underlying34 rfl sch_size ?_)
              obtain ⟨g8, hg8⟩ : ∃ g, g = wr.heap.size := ⟨_, rfl⟩
              obtain ⟨W6, hW6⟩ : ∃ W6, W6 = wr.alloc (.cells (schA x) 34) := ⟨_, rfl⟩
              have q6 : Nw wr W6 := by rw [hW6]; exact (Fr.refl (fun _ => False) wr).alloc _
              have b6 : Blk W6 g8 34 (schA x) := by rw [hW6, hg8]; exact Blk.new wr _ _
              have c60 : W6.cell? ⟨g8, 0, none⟩ = some (I64 x.num) := by simpa using b6.cell 0
              have f60 := b6.frozen 0
              rw [← hW6, ← hg8]
              obtain ⟨W7, hW7⟩ : ∃ W7, W7 = W6.setCell ⟨g8, 0, none⟩ (.int .i64 2) := ⟨_, rfl⟩
              have q7 : Nw wr W7 := by rw [hW7]; exact q6.setCell (.inr (Nat.le_of_eq hg8.symm)) _
              have b7 : Blk W7 g8 34 (schA { x with num := 2 }) := by rw [hW7]; exact b6.set_ 0 _
              have HW7 := Lib.hid hW7
              clear hg8 hW6 hW7 b6
              go_upto_region 16 with (fail)
              rw [← HW7.out]
              have A7 := A5.fr (f3.tr q7) (fun h => h)
              obtain ⟨ai, hai⟩ : ∃ a, L[i]'(by omega) = a := ⟨_, rfl⟩
              have ini : AnsIn V (· < V.heap.size) ai := by rw [← hai]; exact hL _ (List.getElem_mem _)
              have hci := ans_cell A7 (i := i) (by omega)
              rw [hai] at hci
              clear hai
              obtain ⟨W8, hW8⟩ : ∃ W0, W0 = W7.alloc (.cells zD 43) := ⟨_, rfl⟩
              have qW8 : Nw W7 W8 := by rw [hW8]; exact (Fr.refl (fun _ => False) W7).alloc _
              have dW8 : Blk W8 W7.heap.size 43 zD := by rw [hW8]; exact Blk.new W7 _ _
              obtain ⟨W9, hW9⟩ : ∃ W1, W1 = W8.setCells W7.heap.size 0 (deedL ⟨3, ⟨0, [], [], 0, 0, 0, 0, 0⟩, false, 0, ai.1, ai.2.1, ai.2.2⟩).toArray.toList := ⟨_, rfl⟩
              have q9 : Nw W7 W9 := by rw [hW9]; exact qW8.new ((Fr.refl (· = W7.heap.size) W8).setCells _ _) (fun b hb => by omega)
              have d9 : Blk W9 W7.heap.size 43 (deedL ⟨3, ⟨0, [], [], 0, 0, 0, 0, 0⟩, false, 0, ai.1, ai.2.1, ai.2.2⟩).toArray := by rw [hW9]; exact Blk.setCells dW8 0 (deedL ⟨3, ⟨0, [], [], 0, 0, 0, 0, 0⟩, false, 0, ai.1, ai.2.1, ai.2.2⟩)
              have hth16 := Blk.there dW8 0 20 (by show 0 + 20 ≤ 20; omega)
              have hone16 := deed_one ⟨3, ⟨0, [], [], 0, 0, 0, 0, 0⟩, false, 0, ai.1, ai.2.1, ai.2.2⟩
              have HW8 := Lib.hid hW8
              have HW9 := Lib.hid hW9
              clear hW8 hW9 dW8
              go_upto_region 17 with (first | (refine wl_load_cells rfl 41 _ rfl gI (i * 9) rfl (anA ai.1 ai.2.1 ai.2.2).toList _ hci Tryz.underlying41 rfl an_size ?_) | (rw [← HW8.out]; refine wpList_store_mid rfl 43 _ _ rfl W7.heap.size 0 (deedL ⟨3, ⟨0, [], [], 0, 0, 0, 0, 0⟩, false, 0, ai.1, ai.2.1, ai.2.2⟩).toArray rfl rfl hth16 deed_size hone16 ?_))
              rw [← HW9.out]
              obtain ⟨g9, hg9⟩ : ∃ g, g = W7.heap.size := ⟨_, rfl⟩
              rw [← hg9] at d9 ⊢
              obtain ⟨bk, hbk⟩ : ∃ bk : Deed, bk = ⟨3, ⟨0, [], [], 0, 0, 0, 0, 0⟩, false, 0, ai.1, ai.2.1, ai.2.2⟩ := ⟨_, rfl⟩
              have t9 : Blk W9 g9 43 (deedF bk).toArray := by rw [hbk]; exact d9
              have ibk : DeedIn V (· < V.heap.size) bk := by rw [hbk]; exact in_back ini 3 0 (by omega) (by omega)
              clear hg9 hbk d9 HW8 HW9 hth16 hone16 hci
              have A9 := A7.fr q9 (fun h => h)
              obtain ⟨ak, hak⟩ : ∃ a, L[k]'(by omega) = a := ⟨_, rfl⟩
              have ink : AnsIn V (· < V.heap.size) ak := by rw [← hak]; exact hL _ (List.getElem_mem _)
              have hck := ans_cell A9 (i := k) (by omega)
              rw [hak] at hck
              clear hak
              obtain ⟨W10, hW10⟩ : ∃ W0, W0 = W9.alloc (.cells zD 43) := ⟨_, rfl⟩
              have qW10 : Nw W9 W10 := by rw [hW10]; exact (Fr.refl (fun _ => False) W9).alloc _
              have dW10 : Blk W10 W9.heap.size 43 zD := by rw [hW10]; exact Blk.new W9 _ _
              obtain ⟨W11, hW11⟩ : ∃ W1, W1 = W10.setCells W9.heap.size 0 (deedL ⟨4, ⟨0, [], [], 0, 0, 0, 0, 0⟩, false, ((i % 2 : Nat) : Int), ak.1, ak.2.1, ak.2.2⟩).toArray.toList := ⟨_, rfl⟩
              have q11 : Nw W9 W11 := by rw [hW11]; exact qW10.new ((Fr.refl (· = W9.heap.size) W10).setCells _ _) (fun b hb => by omega)
              have d11 : Blk W11 W9.heap.size 43 (deedL ⟨4, ⟨0, [], [], 0, 0, 0, 0, 0⟩, false, ((i % 2 : Nat) : Int), ak.1, ak.2.1, ak.2.2⟩).toArray := by rw [hW11]; exact Blk.setCells dW10 0 (deedL ⟨4, ⟨0, [], [], 0, 0, 0, 0, 0⟩, false, ((i % 2 : Nat) : Int), ak.1, ak.2.1, ak.2.2⟩)
              have hth17 := Blk.there dW10 0 20 (by show 0 + 20 ≤ 20; omega)
              have hone17 := deed_one ⟨4, ⟨0, [], [], 0, 0, 0, 0, 0⟩, false, ((i % 2 : Nat) : Int), ak.1, ak.2.1, ak.2.2⟩
              have HW10 := Lib.hid hW10
              have HW11 := Lib.hid hW11
              clear hW10 hW11 dW10
              go_upto_region 18 with (first | (refine wl_load_cells rfl 41 _ rfl gI (k * 9) rfl (anA ak.1 ak.2.1 ak.2.2).toList _ hck Tryz.underlying41 rfl an_size ?_) | (rw [← HW10.out]; refine wpList_store_mid rfl 43 _ _ rfl W9.heap.size 0 (deedL ⟨4, ⟨0, [], [], 0, 0, 0, 0, 0⟩, false, ((i % 2 : Nat) : Int), ak.1, ak.2.1, ak.2.2⟩).toArray rfl rfl hth17 deed_size hone17 ?_))
              rw [← HW11.out]
              obtain ⟨g10, hg10⟩ : ∃ g, g = W9.heap.size := ⟨_, rfl⟩
              rw [← hg10] at d11 ⊢
              obtain ⟨nk, hnk⟩ : ∃ nk : Deed, nk = ⟨4, ⟨0, [], [], 0, 0, 0, 0, 0⟩, false, ((i % 2 : Nat) : Int), ak.1, ak.2.1, ak.2.2⟩ := ⟨_, rfl⟩
              have t10 : Blk W11 g10 43 (deedF nk).toArray := by rw [hnk]; exact d11
              have innk : DeedIn V (· < V.heap.size) nk := by rw [hnk]; exact in_back ink 4 _ (by omega) (by omega)
              have q711 : Nw W7 W11 := q9.tr q11
              have hT5 : ∀ w', Nw W11 w' → w'.rangeAt g5 0 (deedF tk) := fun w' q => blk_range t5 (((f3.tr q7).tr q711).tr q)
              have hT9 : ∀ w', Nw W11 w' → w'.rangeAt g9 0 (deedF bk) := fun w' q => blk_range t9 (q11.tr q)
              have hT10 : ∀ w', Nw W11 w' → w'.rangeAt g10 0 (deedF nk) := fun w' q => blk_range t10 q
              have hT8 : ∀ w', Nw W11 w' → w'.rangeAt g8 0 [I64 2, StrV x.lo, StrV x.hi, I64 x.src, I64 x.dst, I64 x.epoch, I64 x.under, U8V x.stage] := fun w' q => blk_range b7 (q711.tr q)
              have hs5 : (Tryz.prog.info? 43).map (·.size) = some (deedF tk).length := deed_size
              have hs9 : (Tryz.prog.info? 43).map (·.size) = some (deedF bk).length := deed_size
              have hs10 : (Tryz.prog.info? 43).map (·.size) = some (deedF nk).length := deed_size
              have hs8 : (Tryz.prog.info? 34).map (·.size) = some [I64 2, StrV x.lo, StrV x.hi, I64 x.src, I64 x.dst, I64 x.epoch, I64 x.under, U8V x.stage].length := sch_size
              have hS0 : Nw W11 W11.drew := (Fr.refl (fun _ => False) W11).drew
              have qV11 : Nw V W11 := ((qV5.tr f3).tr q7).tr q711
              have hh1 := fun w => handoff_any w ((s : Int) + 1) (by omega)
              obtain ⟨x1, hx1, hxs1⟩ : ∃ x, hand ((s : Int) + 1) = x ∧ SmallS x := ⟨_, rfl, hand_small _ (by omega)⟩
              rw [hx1] at hh1
              have hh2 := fun w => handoff_any w 2 (by omega)
              obtain ⟨x2, hx2, hxs2⟩ : ∃ x, hand 2 = x ∧ SmallS x := ⟨_, rfl, hand_small _ (by omega)⟩
              rw [hx2] at hh2
              have hr1 := runs_of W11 (· < V.heap.size) _ 18 rfl (by omega) (in18 (itk.nw qV11) (ibk.nw qV11) (innk.nw qV11) (in_tick W11 (· < V.heap.size) x1 true hxs1 0 (by omega)) (in_tick W11 (· < V.heap.size) { x with num := 2 } true hxs 0 (by omega))) i (by omega)
              have hwu : IntKind.u8.wrap (IntKind.i64.wrap ((s : Int) + 1)) = s + 1 := by rw [IntWalk.i64_in _ (by omega)]; exact u8_wrap_in _ (by omega)
              have hr2 := fun on => runs_of W11 (· < V.heap.size) _ 10 rfl (by omega) (in10 (itk.nw qV11) (ibk.nw qV11) (innk.nw qV11) (in_tick W11 (· < V.heap.size) x2 true hxs2 0 (by omega)) (in_tick W11 (· < V.heap.size) { x with num := 2 } on hxs 0 (by omega))) k (by omega)
              have Q5 : Nw W5 W11 := (f3.tr q7).tr q711
              clear hg10 hnk d11 HW10 HW11 hth17 hone17 hck hx1 hx2 hcl4 qV11 q711 itk ibk innk
              refine wp_region_held_drew (S := fun w' => Nw W11 w') (by kernel_rfl) hS0 (fun hHeld => ?_)
              refine' takeH 67 (i := 0) (v := _) rfl rfl (by kernel_rfl) (by kernel_rfl) (by kernel_rfl) (fun _ _ _ h => h) (Or.inl ⟨by rfl, ?hy0a⟩) (by assumption) ?re0a
              case hy0a => (intro w hSw; go_simp; try first | with_reducible rfl | exact hwu)
              try simp only [Act.put, List.setIfInBounds_toArray, List.set_cons_zero, List.set_cons_succ]
              refine' takeH 68 (i := 1) (v := _) rfl rfl (by kernel_rfl) (by kernel_rfl) (by kernel_rfl) (fun _ _ _ h => h) (yieldsIf_load_mid (by rfl) _ _ rfl _ _ rfl _ _ hT5 Tryz.underlying43 rfl hs5) (by assumption) ?re1a
              try simp only [Act.put, List.setIfInBounds_toArray, List.set_cons_zero, List.set_cons_succ]
              refine' takeH 69 (i := 2) (v := _) rfl rfl (by kernel_rfl) (by kernel_rfl) (by kernel_rfl) (fun _ _ _ h => h) (yieldsIf_load_mid (by rfl) _ _ rfl _ _ rfl _ _ hT5 Tryz.underlying43 rfl hs5) (by assumption) ?re2a
              try simp only [Act.put, List.setIfInBounds_toArray, List.set_cons_zero, List.set_cons_succ]
              refine' takeH 70 (i := 3) (v := _) rfl rfl (by kernel_rfl) (by kernel_rfl) (by kernel_rfl) (fun _ _ _ h => h) (yieldsIf_load_mid (by rfl) _ _ rfl _ _ rfl _ _ hT9 Tryz.underlying43 rfl hs9) (by assumption) ?re3a
              try simp only [Act.put, List.setIfInBounds_toArray, List.set_cons_zero, List.set_cons_succ]
              refine' takeH 71 (i := 4) (v := _) rfl rfl (by kernel_rfl) (by kernel_rfl) (by kernel_rfl) (fun _ _ _ h => h) (yieldsIf_load_mid (by rfl) _ _ rfl _ _ rfl _ _ hT5 Tryz.underlying43 rfl hs5) (by assumption) ?re4a
              try simp only [Act.put, List.setIfInBounds_toArray, List.set_cons_zero, List.set_cons_succ]
              refine' takeH 72 (i := 5) (v := _) rfl rfl (by kernel_rfl) (by kernel_rfl) (by kernel_rfl) (fun _ _ _ h => h) (yieldsIf_load_mid (by rfl) _ _ rfl _ _ rfl _ _ hT10 Tryz.underlying43 rfl hs10) (by assumption) ?re5a
              try simp only [Act.put, List.setIfInBounds_toArray, List.set_cons_zero, List.set_cons_succ]
              refine' takeH 73 (i := 6) (v := _) rfl rfl (by kernel_rfl) (by kernel_rfl) (by kernel_rfl) (fun _ _ _ h => h) (Or.inl ⟨by rfl, ?hy6a⟩) (by assumption) ?re6a
              case hy6a => (intro w hSw; go_simp; try first | with_reducible rfl | exact hwu)
              try simp only [Act.put, List.setIfInBounds_toArray, List.set_cons_zero, List.set_cons_succ]
              refine' takeH 74 (i := 7) (v := _) rfl rfl (by kernel_rfl) (by kernel_rfl) (by kernel_rfl) (fun _ _ _ h => h) (Or.inl ⟨by rfl, ?hy7a⟩) (by assumption) ?re7a
              case hy7a => (intro w hSw; go_simp; try first | with_reducible rfl | exact hwu)
              try simp only [Act.put, List.setIfInBounds_toArray, List.set_cons_zero, List.set_cons_succ]
              refine' takeH 75 (i := 8) (v := _) rfl rfl (by kernel_rfl) (by kernel_rfl) (by kernel_rfl) (fun _ _ _ h => h) (Or.inl ⟨by rfl, ?hy8a⟩) (by assumption) ?re8a
              case hy8a => (intro w hSw; go_simp; try first | with_reducible rfl | exact hwu)
              try simp only [Act.put, List.setIfInBounds_toArray, List.set_cons_zero, List.set_cons_succ]
              refine' takeH 78 (i := 11) (v := _) rfl rfl (by kernel_rfl) (by kernel_rfl) (by kernel_rfl) (fun _ _ _ h => h) (yieldsIf_load_mid (by rfl) _ _ rfl _ _ rfl _ _ hT10 Tryz.underlying43 rfl hs10) (by assumption) ?re11a
              try simp only [Act.put, List.setIfInBounds_toArray, List.set_cons_zero, List.set_cons_succ]
              refine' takeH 79 (i := 12) (v := _) rfl rfl (by kernel_rfl) (by kernel_rfl) (by kernel_rfl) (fun _ _ _ h => h) (yieldsIf_load_mid (by rfl) _ _ rfl _ _ rfl _ _ hT5 Tryz.underlying43 rfl hs5) (by assumption) ?re12a
              try simp only [Act.put, List.setIfInBounds_toArray, List.set_cons_zero, List.set_cons_succ]
              refine' takeH 80 (i := 13) (v := _) rfl rfl (by kernel_rfl) (by kernel_rfl) (by kernel_rfl) (fun _ _ _ h => h) (yieldsIf_load_mid (by rfl) _ _ rfl _ _ rfl _ _ hT5 Tryz.underlying43 rfl hs5) (by assumption) ?re13a
              try simp only [Act.put, List.setIfInBounds_toArray, List.set_cons_zero, List.set_cons_succ]
              refine' takeH 81 (i := 14) (v := _) rfl rfl (by kernel_rfl) (by kernel_rfl) (by kernel_rfl) (fun _ _ _ h => h) (yieldsIf_load_mid (by rfl) _ _ rfl _ _ rfl _ _ hT5 Tryz.underlying43 rfl hs5) (by assumption) ?re14a
              try simp only [Act.put, List.setIfInBounds_toArray, List.set_cons_zero, List.set_cons_succ]
              refine' takeH 82 (i := 15) (v := _) rfl rfl (by kernel_rfl) (by kernel_rfl) (by kernel_rfl) (fun _ _ _ h => h) (yieldsIf_load_mid (by rfl) _ _ rfl _ _ rfl _ _ hT5 Tryz.underlying43 rfl hs5) (by assumption) ?re15a
              try simp only [Act.put, List.setIfInBounds_toArray, List.set_cons_zero, List.set_cons_succ]
              refine' takeH 83 (i := 16) (v := _) rfl rfl (by kernel_rfl) (by kernel_rfl) (by kernel_rfl) (fun _ _ _ h => h) (yieldsIf_load_mid (by rfl) _ _ rfl _ _ rfl _ _ hT5 Tryz.underlying43 rfl hs5) (by assumption) ?re16a
              try simp only [Act.put, List.setIfInBounds_toArray, List.set_cons_zero, List.set_cons_succ]
              refine' takeH 84 (i := 17) (v := _) rfl rfl (by kernel_rfl) (by kernel_rfl) (by kernel_rfl) (fun _ _ _ h => h) (yieldsIf_load_mid (by rfl) _ _ rfl _ _ rfl _ _ hT9 Tryz.underlying43 rfl hs9) (by assumption) ?re17a
              try simp only [Act.put, List.setIfInBounds_toArray, List.set_cons_zero, List.set_cons_succ]
              refine' takeH 85 (i := 18) (v := _) rfl rfl (by kernel_rfl) (by kernel_rfl) (by kernel_rfl) (fun _ _ _ h => h) (yieldsIf_load_mid (by rfl) _ _ rfl _ _ rfl _ _ hT9 Tryz.underlying43 rfl hs9) (by assumption) ?re18a
              try simp only [Act.put, List.setIfInBounds_toArray, List.set_cons_zero, List.set_cons_succ]
              refine' takeH 86 (i := 19) (v := _) rfl rfl (by kernel_rfl) (by kernel_rfl) (by kernel_rfl) (fun _ _ _ h => h) (yieldsIf_load_mid (by rfl) _ _ rfl _ _ rfl _ _ hT5 Tryz.underlying43 rfl hs5) (by assumption) ?re19a
              try simp only [Act.put, List.setIfInBounds_toArray, List.set_cons_zero, List.set_cons_succ]
              refine' takeH 87 (i := 20) (v := _) rfl rfl (by kernel_rfl) (by kernel_rfl) (by kernel_rfl) (fun _ _ _ h => h) (yieldsIf_load_mid (by rfl) _ _ rfl _ _ rfl _ _ hT8 Tryz.underlying34 rfl hs8) (by assumption) ?re20a
              try simp only [Act.put, List.setIfInBounds_toArray, List.set_cons_zero, List.set_cons_succ]
              refine' takeH 88 (i := 21) (v := _) rfl rfl (by kernel_rfl) (by kernel_rfl) (by kernel_rfl) (fun _ _ _ h => h) (Or.inl ⟨by rfl, ?hy21a⟩) (by assumption) ?re21a
              case hy21a => (intro w hSw; go_simp; try first | with_reducible rfl | exact hwu)
              try simp only [Act.put, List.setIfInBounds_toArray, List.set_cons_zero, List.set_cons_succ]
              refine' takeH 89 (i := 22) (v := _) rfl rfl (by kernel_rfl) (by kernel_rfl) (by kernel_rfl) (fun _ _ _ h => h) (yieldsIf_load_mid (by rfl) _ _ rfl _ _ rfl _ _ hT10 Tryz.underlying43 rfl hs10) (by assumption) ?re22a
              try simp only [Act.put, List.setIfInBounds_toArray, List.set_cons_zero, List.set_cons_succ]
              refine' takeH 90 (i := 23) (v := _) rfl rfl (by kernel_rfl) (by kernel_rfl) (by kernel_rfl) (fun _ _ _ h => h) (yieldsIf_load_mid (by rfl) _ _ rfl _ _ rfl _ _ hT5 Tryz.underlying43 rfl hs5) (by assumption) ?re23a
              try simp only [Act.put, List.setIfInBounds_toArray, List.set_cons_zero, List.set_cons_succ]
              refine' callH 76 21 #[.int .u8 ((s : Int) + 1)] (i := 9) rfl rfl (by kernel_rfl) (by rfl) ?he9a (hh1 _) ?re9a
              case he9a => (intro w; go_simp; try first | with_reducible rfl | exact hwu)
              intro w12 q12
              have Qw12 := (hS0).tr q12
              refine ⟨Qw12, ?_⟩
              have hHeld := Qw12
              try simp only [Act.put, List.setIfInBounds_toArray, List.set_cons_zero, List.set_cons_succ]
              refine' takeH 77 (i := 10) (v := _) rfl rfl (by kernel_rfl) (by kernel_rfl) (by kernel_rfl) (fun _ _ _ h => h) (Or.inl ⟨by rfl, ?hy10a⟩) (by assumption) ?re10a
              case hy10a => (intro w hSw; go_simp; try first | with_reducible rfl | exact hwu)
              try simp only [Act.put, List.setIfInBounds_toArray, List.set_cons_zero, List.set_cons_succ]
              refine buildH 91 22 18 [(0, .tmp 68), (1, .tmp 69), (2, .tmp 70), (3, .tmp 71), (4, .tmp 72), (5, .tmp 77), (6, .tmp 78), (7, .tmp 79), (8, .tmp 80), (9, .tmp 81), (10, .tmp 82), (11, .tmp 83), (12, .tmp 84), (13, .tmp 85), (14, .tmp 86), (15, .tmp 88), (16, .tmp 89), (17, .tmp 90)] 20 (List.map deedF [tk, tk, bk, tk, nk, (⟨0, x1, true, 0, an0, none, 0⟩ : Deed), nk, tk, tk, tk, tk, tk, bk, bk, tk, (⟨0, { x with num := 2 }, true, 0, an0, none, 0⟩ : Deed), nk, tk]) _ (i := 24) rfl rfl (by kernel_rfl) (by rfl) rfl Tryz.underlying22 info_deed rfl (by decide) (by decide) (deeds20 _) (by decide) rfl ?_
              intro g13 W13 hg13 hW13
              have qW13 : Nw w12 W13 := by rw [hW13]; exact (Fr.refl (fun _ => False) _).alloc _
              have sW13 : Sl W13 (· = g13) (some ⟨g13, 0, none⟩) (deedsC [tk, tk, bk, tk, nk, (⟨0, x1, true, 0, an0, none, 0⟩ : Deed), nk, tk, tk, tk, tk, tk, bk, bk, tk, (⟨0, { x with num := 2 }, true, 0, an0, none, 0⟩ : Deed), nk, tk]) := by rw [hW13, hg13]; exact (Blk.new _ _ _).sl2 rfl
              have QW13 := (Qw12).tr qW13
              refine ⟨QW13, ?_⟩
              clear hg13 hW13
              have hHeld := QW13
              try simp only [Act.put, List.setIfInBounds_toArray, List.set_cons_zero, List.set_cons_succ]
              refine' callH 92 3 #[.int .i64 i, .slice (some ⟨g13, 0, none⟩) 18 18] (i := 25) rfl rfl (by kernel_rfl) (by rfl) ?he25a (hr1 _ _ _ QW13 sW13) ?re25a
              case he25a => (intro w; go_simp; try first | with_reducible rfl | exact hwu)
              intro w14 q14
              have Qw14 := (QW13).tr q14
              refine ⟨Qw14, ?_⟩
              have hHeld := Qw14
              try simp only [Act.put, List.setIfInBounds_toArray, List.set_cons_zero, List.set_cons_succ]
              refine' takeH 93 (i := 26) (v := _) rfl rfl (by kernel_rfl) (by kernel_rfl) (by kernel_rfl) (fun _ _ _ h => h) (Or.inl ⟨by rfl, ?hy26a⟩) (by assumption) ?re26a
              case hy26a => (intro w hSw; go_simp; try first | with_reducible rfl | exact hwu)
              try simp only [Act.put, List.setIfInBounds_toArray, List.set_cons_zero, List.set_cons_succ]
              refine' takeH 94 (i := 27) (v := _) rfl rfl (by kernel_rfl) (by kernel_rfl) (by kernel_rfl) (fun _ _ _ h => h) (Or.inl ⟨by rfl, ?hy27a⟩) (by assumption) ?re27a
              case hy27a => (intro w hSw; go_simp; try first | with_reducible rfl | exact hwu)
              try simp only [Act.put, List.setIfInBounds_toArray, List.set_cons_zero, List.set_cons_succ]
              refine' takeH 95 (i := 28) (v := _) rfl rfl (by kernel_rfl) (by kernel_rfl) (by kernel_rfl) (fun _ _ _ h => h) (Or.inl ⟨by rfl, ?hy28a⟩) (by assumption) ?re28a
              case hy28a => (intro w hSw; go_simp; try first | with_reducible rfl | exact hwu)
              try simp only [Act.put, List.setIfInBounds_toArray, List.set_cons_zero, List.set_cons_succ]
              refine' takeH 96 (i := 29) (v := _) rfl rfl (by kernel_rfl) (by kernel_rfl) (by kernel_rfl) (fun _ _ _ h => h) (yieldsIf_load_mid (by rfl) _ _ rfl _ _ rfl _ _ hT5 Tryz.underlying43 rfl hs5) (by assumption) ?re29a
              try simp only [Act.put, List.setIfInBounds_toArray, List.set_cons_zero, List.set_cons_succ]
              refine' takeH 97 (i := 30) (v := _) rfl rfl (by kernel_rfl) (by kernel_rfl) (by kernel_rfl) (fun _ _ _ h => h) (yieldsIf_load_mid (by rfl) _ _ rfl _ _ rfl _ _ hT9 Tryz.underlying43 rfl hs9) (by assumption) ?re30a
              try simp only [Act.put, List.setIfInBounds_toArray, List.set_cons_zero, List.set_cons_succ]
              refine' takeH 100 (i := 33) (v := _) rfl rfl (by kernel_rfl) (by kernel_rfl) (by kernel_rfl) (fun _ _ _ h => h) (yieldsIf_load_mid (by rfl) _ _ rfl _ _ rfl _ _ hT10 Tryz.underlying43 rfl hs10) (by assumption) ?re33a
              try simp only [Act.put, List.setIfInBounds_toArray, List.set_cons_zero, List.set_cons_succ]
              refine' takeH 101 (i := 34) (v := _) rfl rfl (by kernel_rfl) (by kernel_rfl) (by kernel_rfl) (fun _ _ _ h => h) (yieldsIf_load_mid (by rfl) _ _ rfl _ _ rfl _ _ hT10 Tryz.underlying43 rfl hs10) (by assumption) ?re34a
              try simp only [Act.put, List.setIfInBounds_toArray, List.set_cons_zero, List.set_cons_succ]
              refine' takeH 102 (i := 35) (v := _) rfl rfl (by kernel_rfl) (by kernel_rfl) (by kernel_rfl) (fun _ _ _ h => h) (yieldsIf_load_mid (by rfl) _ _ rfl _ _ rfl _ _ hT8 Tryz.underlying34 rfl hs8) (by assumption) ?re35a
              try simp only [Act.put, List.setIfInBounds_toArray, List.set_cons_zero, List.set_cons_succ]
              refine' takeH 103 (i := 36) (v := _) rfl rfl (by kernel_rfl) (by kernel_rfl) (by kernel_rfl) (fun _ _ _ h => h) (Or.inl ⟨by rfl, ?hy36a⟩) (by assumption) ?re36a
              case hy36a => (intro w hSw; go_simp; try first | with_reducible rfl | exact hwu)
              try simp only [Act.put, List.setIfInBounds_toArray, List.set_cons_zero, List.set_cons_succ]
              refine' takeH 104 (i := 37) (v := _) rfl rfl (by kernel_rfl) (by kernel_rfl) (by kernel_rfl) (fun _ _ _ h => h) (Or.inl ⟨by rfl, ?hy37a⟩) (by assumption) ?re37a
              case hy37a => (intro w hSw; go_simp; try first | with_reducible rfl | exact hwu)
              try simp only [Act.put, List.setIfInBounds_toArray, List.set_cons_zero, List.set_cons_succ]
              refine' takeH 105 (i := 38) (v := _) rfl rfl (by kernel_rfl) (by kernel_rfl) (by kernel_rfl) (fun _ _ _ h => h) (Or.inl ⟨by rfl, ?hy38a⟩) (by assumption) ?re38a
              case hy38a => (intro w hSw; go_simp; try first | with_reducible rfl | exact hwu)
              try simp only [Act.put, List.setIfInBounds_toArray, List.set_cons_zero, List.set_cons_succ]
              refine' takeH 106 (i := 39) (v := _) rfl rfl (by kernel_rfl) (by kernel_rfl) (by kernel_rfl) (fun _ _ _ h => h) (Or.inl ⟨by rfl, ?hy39a⟩) (by assumption) ?re39a
              case hy39a => (intro w hSw; go_simp; try first | with_reducible rfl | exact hwu)
              try simp only [Act.put, List.setIfInBounds_toArray, List.set_cons_zero, List.set_cons_succ]
              refine' takeH 107 (i := 40) (v := _) rfl rfl (by kernel_rfl) (by kernel_rfl) (by kernel_rfl) (fun _ _ _ h => h) (yieldsIf_load_mid (by rfl) _ _ rfl _ _ rfl _ _ hT9 Tryz.underlying43 rfl hs9) (by assumption) ?re40a
              try simp only [Act.put, List.setIfInBounds_toArray, List.set_cons_zero, List.set_cons_succ]
              refine' takeH 108 (i := 41) (v := _) rfl rfl (by kernel_rfl) (by kernel_rfl) (by kernel_rfl) (fun _ _ _ h => h) (yieldsIf_load_mid (by rfl) _ _ rfl _ _ rfl _ _ hT5 Tryz.underlying43 rfl hs5) (by assumption) ?re41a
              try simp only [Act.put, List.setIfInBounds_toArray, List.set_cons_zero, List.set_cons_succ]
              refine' takeH 109 (i := 42) (v := _) rfl rfl (by kernel_rfl) (by kernel_rfl) (by kernel_rfl) (fun _ _ _ h => h) (yieldsIf_load_mid (by rfl) _ _ rfl _ _ rfl _ _ hT10 Tryz.underlying43 rfl hs10) (by assumption) ?re42a
              try simp only [Act.put, List.setIfInBounds_toArray, List.set_cons_zero, List.set_cons_succ]
              refine' takeH 110 (i := 43) (v := _) rfl rfl (by kernel_rfl) (by kernel_rfl) (by kernel_rfl) (fun _ _ _ h => h) (yieldsIf_load_mid (by rfl) _ _ rfl _ _ rfl _ _ hT9 Tryz.underlying43 rfl hs9) (by assumption) ?re43a
              try simp only [Act.put, List.setIfInBounds_toArray, List.set_cons_zero, List.set_cons_succ]
              refine' callH 98 21 #[.int .u8 2] (i := 31) rfl rfl (by kernel_rfl) (by rfl) ?he31a (hh2 _) ?re31a
              case he31a => (intro w; go_simp; try first | with_reducible rfl | exact hwu)
              intro w15 q15
              have Qw15 := (Qw14).tr q15
              refine ⟨Qw15, ?_⟩
              have hHeld := Qw15
              try simp only [Act.put, List.setIfInBounds_toArray, List.set_cons_zero, List.set_cons_succ]
              refine' takeH 99 (i := 32) (v := _) rfl rfl (by kernel_rfl) (by kernel_rfl) (by kernel_rfl) (fun _ _ _ h => h) (Or.inl ⟨by rfl, ?hy32a⟩) (by assumption) ?re32a
              case hy32a => (intro w hSw; go_simp; try first | with_reducible rfl | exact hwu)
              try simp only [Act.put, List.setIfInBounds_toArray, List.set_cons_zero, List.set_cons_succ]
              refine buildH 111 22 10 [(0, .tmp 96), (1, .tmp 97), (2, .tmp 99), (3, .tmp 100), (4, .tmp 101), (5, .tmp 106), (6, .tmp 107), (7, .tmp 108), (8, .tmp 109), (9, .tmp 110)] 20 (List.map deedF [tk, bk, (⟨0, x2, true, 0, an0, none, 0⟩ : Deed), nk, nk, (⟨0, { x with num := 2 }, ((k : Int).tmod 2 == 0), 0, an0, none, 0⟩ : Deed), bk, tk, nk, bk]) _ (i := 44) rfl rfl (by kernel_rfl) (by rfl) rfl Tryz.underlying22 info_deed rfl (by decide) (by decide) (deeds20 _) (by decide) rfl ?_
              intro g16 W16 hg16 hW16
              have qW16 : Nw w15 W16 := by rw [hW16]; exact (Fr.refl (fun _ => False) _).alloc _
              have sW16 : Sl W16 (· = g16) (some ⟨g16, 0, none⟩) (deedsC [tk, bk, (⟨0, x2, true, 0, an0, none, 0⟩ : Deed), nk, nk, (⟨0, { x with num := 2 }, ((k : Int).tmod 2 == 0), 0, an0, none, 0⟩ : Deed), bk, tk, nk, bk]) := by rw [hW16, hg16]; exact (Blk.new _ _ _).sl2 rfl
              have QW16 := (Qw15).tr qW16
              refine ⟨QW16, ?_⟩
              clear hg16 hW16
              have hHeld := QW16
              try simp only [Act.put, List.setIfInBounds_toArray, List.set_cons_zero, List.set_cons_succ]
              refine' callH 112 3 #[.int .i64 k, .slice (some ⟨g16, 0, none⟩) 10 10] (i := 45) rfl rfl (by kernel_rfl) (by rfl) ?he45a (hr2 _ _ _ _ QW16 sW16) ?re45a
              case he45a => (intro w; go_simp; try first | with_reducible rfl | exact hwu)
              intro w17 q17
              have Qw17 := (QW16).tr q17
              refine ⟨Qw17, ?_⟩
              have hHeld := Qw17
              try simp only [Act.put, List.setIfInBounds_toArray, List.set_cons_zero, List.set_cons_succ]
              refine' takeH 113 (i := 46) (v := _) rfl rfl (by kernel_rfl) (by kernel_rfl) (by kernel_rfl) (fun _ _ _ h => h) (Or.inl ⟨by rfl, ?hy46a⟩) (by assumption) ?re46a
              case hy46a => (intro w hSw; go_simp; try first | with_reducible rfl | exact hwu)
              try simp only [Act.put, List.setIfInBounds_toArray, List.set_cons_zero, List.set_cons_succ]
              refine' takeH 114 (i := 47) (v := _) rfl rfl (by kernel_rfl) (by kernel_rfl) (by kernel_rfl) (fun _ _ _ h => h) (Or.inl ⟨by rfl, ?hy47a⟩) (by assumption) ?re47a
              case hy47a => (intro w hSw; go_simp; try first | with_reducible rfl | exact hwu)
              try simp only [Act.put, List.setIfInBounds_toArray, List.set_cons_zero, List.set_cons_succ]
              refine wpAnyH_done (by kernel_rfl) ?_ _
              go_wp2_with fail
              go_roundw
              case rel => exact ⟨k + 1, by omega, by go_num, Q5.tr Qw17⟩
              case measure => simp [intOf]; omega
            · have hk0 : ¬ (k : Int) < 6 := by omega
              go_wp2_with fail
              go_roundw
              case rel => exact ⟨i + 1, by omega, by go_num, f3⟩
              case measure => simp [intOf]; omega
        · have hi0 : ¬ (i : Int) < 6 := by omega
          have b4r := b45.fr f2 (fun h => h)
          have hcl4 : ∀ p u, ((schA x).toList)[p]? = some u → wr.cell? ⟨g4, 0 + p, none⟩ = some u := Blk.cells_in b4r 0 8
          go_upto_region 21 with (refine wl_load_cells rfl 34 _ rfl g4 0 rfl (schA x).toList _ hcl4 Tryz.underlying34 rfl sch_size ?_)
          obtain ⟨g11, hg11⟩ : ∃ g, g = wr.heap.size := ⟨_, rfl⟩
          obtain ⟨W18, hW18⟩ : ∃ W, W = wr.alloc (.cells (odd40 x) 34) := ⟨_, rfl⟩
          have q18 : Nw wr W18 := by rw [hW18]; exact (Fr.refl (fun _ => False) wr).alloc _
          have b18 : Blk W18 g11 34 (odd40 x) := by rw [hW18, hg11]; exact Blk.new wr _ _
          have hg11w : wr.heap.size ≤ g11 := Nat.le_of_eq hg11.symm
          rw [← hW18, ← hg11]
          clear hW18 hg11
          have c18 : W18.cell? ⟨g11, 8, none⟩ = some (I64 x.num) := by simpa using b18.cell 8
          have e18 := b18.frozen 8
          obtain ⟨W19, hW19⟩ : ∃ W, W = W18.setCell ⟨g11, 8, none⟩ (.int .i64 0) := ⟨_, rfl⟩
          have b19 := by have h := b18.set_ 8 (.int .i64 0); rw [← hW19] at h; exact h
          have q19 : Nw wr W19 := by rw [hW19]; exact q18.setCell (.inr hg11w) _
          have HW19 := Lib.hid hW19
          clear hW19
          go_upto_region 22 with (fail)
          rw [← HW19.out]
          have c19 : W19.cell? ⟨g11, 20, none⟩ = some (I64 x.dst) := by simpa using b19.cell 20
          have e19 := b19.frozen 20
          obtain ⟨W20, hW20⟩ : ∃ W, W = W19.setCell ⟨g11, 20, none⟩ (.int .i64 1) := ⟨_, rfl⟩
          have b20 := by have h := b19.set_ 20 (.int .i64 1); rw [← hW20] at h; exact h
          have q20 : Nw wr W20 := by rw [hW20]; exact q19.setCell (.inr hg11w) _
          have HW20 := Lib.hid hW20
          clear hW20
          go_upto_region 23 with (fail)
          rw [← HW20.out]
          have c20 : W20.cell? ⟨g11, 30, none⟩ = some (I64 x.under) := by simpa using b20.cell 30
          have e20 := b20.frozen 30
          obtain ⟨W21, hW21⟩ : ∃ W, W = W20.setCell ⟨g11, 30, none⟩ (.int .i64 9) := ⟨_, rfl⟩
          have b21 := by have h := b20.set_ 30 (.int .i64 9); rw [← hW21] at h; exact h
          have q21 : Nw wr W21 := by rw [hW21]; exact q20.setCell (.inr hg11w) _
          have HW21 := Lib.hid hW21
          clear hW21
          go_upto_region 24 with (fail)
          rw [← HW21.out]
          have c21 : W21.cell? ⟨g11, 33, none⟩ = some (StrV x.lo) := by simpa using b21.cell 33
          have e21 := b21.frozen 33
          have c22 : W21.cell? ⟨g11, 34, none⟩ = some (StrV x.hi) := by simpa using b21.cell 34
          have e22 := b21.frozen 34
          obtain ⟨W22, hW22⟩ : ∃ W, W = (W21.setCell ⟨g11, 33, none⟩ (.string ⟨#[98]⟩)).setCell ⟨g11, 34, none⟩ (.string ⟨#[97]⟩) := ⟨_, rfl⟩
          have b22 : Blk W22 g11 34 (schC (odds x)).toArray := by have h := (b21.set_ 33 (.string ⟨#[98]⟩)).set_ 34 (.string ⟨#[97]⟩); rw [← hW22] at h; exact h
          have q22 : Nw wr W22 := by rw [hW22]; exact (q21.setCell (.inr hg11w) _).setCell (.inr hg11w) _
          have HW22 := Lib.hid hW22
          clear hW22
          go_upto_region 25 with (fail)
          rw [← HW22.out]
          have q522 := f2.tr q22
          have A22 := A5.fr q522 (fun h => h)
          have b422 := b45.fr q522 (fun h => h)
          have t522 := t5.fr q522 (fun h => h)
          have qV22 := qV5.tr q522
          have hodd := odds_small x hxs
          have hol : (odds x).length = 5 := rfl
          clear b18 b19 b20 b21 c18 c19 c20 c21 c22 e18 e19 e20 e21 e22 q18 q19 q20 q21 q22 HW19 HW20 HW21 HW22 hcl4 b4r
          go_wp2_with fail
          go_loopw [12] (fun k wx => StRel W22 5 k wx) (fun k _ => 5 - (intOf k).toNat)
          case atStart => exact ⟨0, by omega, rfl, Fr.refl _ _⟩
          case round =>
            obtain ⟨j, hj, rfl, f4⟩ := hrel
            by_cases hj5 : j < 5
            · have hj0 : (j : Int) < 5 := by omega
              have hj1 : (0 : Int) ≤ (j : Int) := by omega
              obtain ⟨xo, hxo⟩ : ∃ y, (odds x)[j]'(by omega) = y := ⟨_, rfl⟩
              have hxos : SmallS xo := by rw [← hxo]; exact hodd _ (List.getElem_mem _)
              have hco := sch_cells (b22.fr f4 (fun h => h)) (i := j) (by omega)
              rw [hxo] at hco
              obtain ⟨a2, ha2⟩ : ∃ a, L[2]'(by omega) = a := ⟨_, rfl⟩
              have in2 : AnsIn V (· < V.heap.size) a2 := by rw [← ha2]; exact hL _ (List.getElem_mem _)
              have hc2 := ans_cell (A22.fr f4 (fun h => h)) (i := 2) (by omega)
              rw [ha2] at hc2
              have hTo : ∀ w', Nw wr w' → w'.rangeAt g11 (j * 8) [I64 xo.num, StrV xo.lo, StrV xo.hi, I64 xo.src, I64 xo.dst, I64 xo.epoch, I64 xo.under, U8V xo.stage] := fun w' q => range_of hco q
              have hTa : ∀ w', Nw wr w' → w'.rangeAt gI 18 (anA a2.1 a2.2.1 a2.2.2).toList := fun w' q => range_of hc2 q
              have hT5 : ∀ w', Nw wr w' → w'.rangeAt g5 0 (deedF tk) := fun w' q => blk_range t522 (f4.tr q)
              have hT4 : ∀ w', Nw wr w' → w'.rangeAt g4 0 [I64 x.num, StrV x.lo, StrV x.hi, I64 x.src, I64 x.dst, I64 x.epoch, I64 x.under, U8V x.stage] := fun w' q => blk_range b422 (f4.tr q)
              have hs5 : (Tryz.prog.info? 43).map (·.size) = some (deedF tk).length := deed_size
              have hso : (Tryz.prog.info? 34).map (·.size) = some [I64 xo.num, StrV xo.lo, StrV xo.hi, I64 xo.src, I64 xo.dst, I64 xo.epoch, I64 xo.under, U8V xo.stage].length := sch_size
              have hs8 : (Tryz.prog.info? 34).map (·.size) = some [I64 x.num, StrV x.lo, StrV x.hi, I64 x.src, I64 x.dst, I64 x.epoch, I64 x.under, U8V x.stage].length := sch_size
              have hsa : (Tryz.prog.info? 41).map (·.size) = some (anA a2.1 a2.2.1 a2.2.2).toList.length := an_size
              have hS0 : Nw wr wr.drew := (Fr.refl (fun _ => False) wr).drew
              have qVr := qV22.tr f4
              have hwu : True := trivial
              have hr1 := runs_of wr (· < V.heap.size) _ 7 rfl (by omega) (in7 (itk.nw qVr) (in_tick wr (· < V.heap.size) xo true hxos 0 (by omega)) (in_tick0 wr (· < V.heap.size) 3 (by omega)) (in_tick wr (· < V.heap.size) x false hxs 0 (by omega)) ((in_back in2 3 0 (by omega) (by omega)).nw qVr)) 5 (by omega)
              clear hxo ha2 hco hc2 qVr
              go_upto_region 28 with (fail)
              refine wp_region_held_drew (S := fun w' => Nw wr w') (by kernel_rfl) hS0 (fun hHeld => ?_)
              refine' takeH 140 (i := 0) (v := _) rfl rfl (by kernel_rfl) (by kernel_rfl) (by kernel_rfl) (fun _ _ _ h => h) (yieldsIf_load_mid (by rfl) _ _ rfl _ _ rfl _ _ hT5 Tryz.underlying43 rfl hs5) (by assumption) ?re0b
              try simp only [Act.put, List.setIfInBounds_toArray, List.set_cons_zero, List.set_cons_succ]
              refine' takeH 141 (i := 1) (v := _) rfl rfl (by kernel_rfl) (by kernel_rfl) (by kernel_rfl) (fun _ _ _ h => h) (Or.inl ⟨by rfl, ?hy1b⟩) (by assumption) ?re1b
              case hy1b => (intro w hSw; go_simp; try first | with_reducible rfl | exact hwu)
              try simp only [Act.put, List.setIfInBounds_toArray, List.set_cons_zero, List.set_cons_succ]
              refine' takeH 142 (i := 2) (v := _) rfl rfl (by kernel_rfl) (by kernel_rfl) (by kernel_rfl) (fun _ _ _ h => h) (Or.inl ⟨by rfl, ?hy2b⟩) (by assumption) ?re2b
              case hy2b => (intro w hSw; go_simp; try first | with_reducible rfl | exact hwu)
              try simp only [Act.put, List.setIfInBounds_toArray, List.set_cons_zero, List.set_cons_succ]
              refine' takeH 143 (i := 3) (v := _) rfl rfl (by kernel_rfl) (by kernel_rfl) (by kernel_rfl) (fun _ _ _ h => h) (Or.inl ⟨by rfl, ?hy3b⟩) (by assumption) ?re3b
              case hy3b => (intro w hSw; go_simp; try first | with_reducible rfl | exact hwu)
              try simp only [Act.put, List.setIfInBounds_toArray, List.set_cons_zero, List.set_cons_succ]
              refine' takeH 144 (i := 4) (v := _) rfl rfl (by kernel_rfl) (by kernel_rfl) (by kernel_rfl) (fun _ _ _ h => h) (yieldsIf_load_mid (by rfl) _ _ rfl _ _ rfl _ _ hTo Tryz.underlying34 rfl hso) (by assumption) ?re4b
              try simp only [Act.put, List.setIfInBounds_toArray, List.set_cons_zero, List.set_cons_succ]
              refine' takeH 145 (i := 5) (v := _) rfl rfl (by kernel_rfl) (by kernel_rfl) (by kernel_rfl) (fun _ _ _ h => h) (Or.inl ⟨by rfl, ?hy5b⟩) (by assumption) ?re5b
              case hy5b => (intro w hSw; go_simp; try first | with_reducible rfl | exact hwu)
              try simp only [Act.put, List.setIfInBounds_toArray, List.set_cons_zero, List.set_cons_succ]
              refine' takeH 146 (i := 6) (v := _) rfl rfl (by kernel_rfl) (by kernel_rfl) (by kernel_rfl) (fun _ _ _ h => h) (Or.inl ⟨by rfl, ?hy6b⟩) (by assumption) ?re6b
              case hy6b => (intro w hSw; go_simp; try first | with_reducible rfl | exact hwu)
              try simp only [Act.put, List.setIfInBounds_toArray, List.set_cons_zero, List.set_cons_succ]
              refine' takeH 147 (i := 7) (v := _) rfl rfl (by kernel_rfl) (by kernel_rfl) (by kernel_rfl) (fun _ _ _ h => h) (yieldsIf_load_mid (by rfl) _ _ rfl _ _ rfl _ _ hT5 Tryz.underlying43 rfl hs5) (by assumption) ?re7b
              try simp only [Act.put, List.setIfInBounds_toArray, List.set_cons_zero, List.set_cons_succ]
              refine' takeH 148 (i := 8) (v := _) rfl rfl (by kernel_rfl) (by kernel_rfl) (by kernel_rfl) (fun _ _ _ h => h) (yieldsIf_load_mid (by rfl) _ _ rfl _ _ rfl _ _ hT4 Tryz.underlying34 rfl hs8) (by assumption) ?re8b
              try simp only [Act.put, List.setIfInBounds_toArray, List.set_cons_zero, List.set_cons_succ]
              refine' takeH 149 (i := 9) (v := _) rfl rfl (by kernel_rfl) (by kernel_rfl) (by kernel_rfl) (fun _ _ _ h => h) (Or.inl ⟨by rfl, ?hy9b⟩) (by assumption) ?re9b
              case hy9b => (intro w hSw; go_simp; try first | with_reducible rfl | exact hwu)
              try simp only [Act.put, List.setIfInBounds_toArray, List.set_cons_zero, List.set_cons_succ]
              refine' takeH 150 (i := 10) (v := _) rfl rfl (by kernel_rfl) (by kernel_rfl) (by kernel_rfl) (fun _ _ _ h => h) (yieldsIf_load_mid (by rfl) _ _ rfl _ _ rfl _ _ hT5 Tryz.underlying43 rfl hs5) (by assumption) ?re10b
              try simp only [Act.put, List.setIfInBounds_toArray, List.set_cons_zero, List.set_cons_succ]
              refine' takeH 151 (i := 11) (v := _) rfl rfl (by kernel_rfl) (by kernel_rfl) (by kernel_rfl) (fun _ _ _ h => h) (Or.inl ⟨by rfl, ?hy11b⟩) (by assumption) ?re11b
              case hy11b => (intro w hSw; go_simp; try first | with_reducible rfl | exact hwu)
              try simp only [Act.put, List.setIfInBounds_toArray, List.set_cons_zero, List.set_cons_succ]
              refine' takeH 152 (i := 12) (v := _) rfl rfl (by kernel_rfl) (by kernel_rfl) (by kernel_rfl) (fun _ _ _ h => h) (Or.inl ⟨by rfl, ?hy12b⟩) (by assumption) ?re12b
              case hy12b => (intro w hSw; go_simp; try first | with_reducible rfl | exact hwu)
              try simp only [Act.put, List.setIfInBounds_toArray, List.set_cons_zero, List.set_cons_succ]
              refine' takeH 153 (i := 13) (v := _) rfl rfl (by kernel_rfl) (by kernel_rfl) (by kernel_rfl) (fun _ _ _ h => h) (yieldsIf_load_mid (by rfl) _ _ rfl _ _ rfl _ _ hTa Tryz.underlying41 rfl hsa) (by assumption) ?re13b
              try simp only [Act.put, List.setIfInBounds_toArray, List.set_cons_zero, List.set_cons_succ]
              refine' takeH 154 (i := 14) (v := _) rfl rfl (by kernel_rfl) (by kernel_rfl) (by kernel_rfl) (fun _ _ _ h => h) (Or.inl ⟨by rfl, ?hy14b⟩) (by assumption) ?re14b
              case hy14b => (intro w hSw; go_simp; try first | with_reducible rfl | exact hwu)
              try simp only [Act.put, List.setIfInBounds_toArray, List.set_cons_zero, List.set_cons_succ]
              refine buildH 155 22 7 [(0, .tmp 140), (1, .tmp 145), (2, .tmp 146), (3, .tmp 147), (4, .tmp 149), (5, .tmp 150), (6, .tmp 154)] 20 (List.map deedF [tk, (⟨0, xo, true, 0, an0, none, 0⟩ : Deed), (⟨3, ⟨0, [], [], 0, 0, 0, 0, 0⟩, false, 0, an0, none, 0⟩ : Deed), tk, (⟨0, x, false, 0, an0, none, 0⟩ : Deed), tk, (⟨3, ⟨0, [], [], 0, 0, 0, 0, 0⟩, false, 0, a2.1, a2.2.1, a2.2.2⟩ : Deed)]) _ (i := 15) rfl rfl (by kernel_rfl) (by rfl) rfl Tryz.underlying22 info_deed rfl (by decide) (by decide) (deeds20 _) (by decide) rfl ?_
              intro g23 W23 hg23 hW23
              have qW23 : Nw wr.drew W23 := by rw [hW23]; exact (Fr.refl (fun _ => False) _).alloc _
              have sW23 : Sl W23 (· = g23) (some ⟨g23, 0, none⟩) (deedsC [tk, (⟨0, xo, true, 0, an0, none, 0⟩ : Deed), (⟨3, ⟨0, [], [], 0, 0, 0, 0, 0⟩, false, 0, an0, none, 0⟩ : Deed), tk, (⟨0, x, false, 0, an0, none, 0⟩ : Deed), tk, (⟨3, ⟨0, [], [], 0, 0, 0, 0, 0⟩, false, 0, a2.1, a2.2.1, a2.2.2⟩ : Deed)]) := by rw [hW23, hg23]; exact (Blk.new _ _ _).sl2 rfl
              have QW23 := (hS0).tr qW23
              refine ⟨QW23, ?_⟩
              clear hg23 hW23
              have hHeld := QW23
              try simp only [Act.put, List.setIfInBounds_toArray, List.set_cons_zero, List.set_cons_succ]
              refine' callH 156 3 #[.int .i64 5, .slice (some ⟨g23, 0, none⟩) 7 7] (i := 16) rfl rfl (by kernel_rfl) (by rfl) ?he16b (hr1 _ _ _ QW23 sW23) ?re16b
              case he16b => (intro w; go_simp; try first | with_reducible rfl | exact hwu)
              intro w24 q24
              have Qw24 := (QW23).tr q24
              refine ⟨Qw24, ?_⟩
              have hHeld := Qw24
              try simp only [Act.put, List.setIfInBounds_toArray, List.set_cons_zero, List.set_cons_succ]
              refine' takeH 157 (i := 17) (v := _) rfl rfl (by kernel_rfl) (by kernel_rfl) (by kernel_rfl) (fun _ _ _ h => h) (Or.inl ⟨by rfl, ?hy17b⟩) (by assumption) ?re17b
              case hy17b => (intro w hSw; go_simp; try first | with_reducible rfl | exact hwu)
              try simp only [Act.put, List.setIfInBounds_toArray, List.set_cons_zero, List.set_cons_succ]
              refine wpAnyH_done (by kernel_rfl) ?_ _
              go_wp2_with fail
              go_roundw
              case rel => exact ⟨j + 1, by omega, by go_num, f4.tr Qw24⟩
              case measure => simp [intOf]; omega
            · have hj0 : ¬ (j : Int) < 5 := by omega
              go_wp2_with fail
              go_roundw
              case rel => exact ⟨s + 1, by omega, by go_num, qV22.tr f4⟩
              case measure => simp [intOf]; omega
    · have hi0 : ¬ (s : Int) < 11 := by omega
      have haw := fun w => awake_any w
      go_upto_region 32 with (fail)
      obtain ⟨gM, hgM⟩ : ∃ g, g = wr.heap.size := ⟨_, rfl⟩
      obtain ⟨W30, hW30⟩ : ∃ W, W = wr.alloc (.cells zM 79) := ⟨_, rfl⟩
      have q30 : Nw wr W30 := by rw [hW30]; exact (Fr.refl (fun _ => False) wr).alloc _
      have b30 : Blk W30 gM 79 zM := by rw [hW30, hgM]; exact Blk.new wr _ _
      have c30 : W30.cell? ⟨gM, 18, none⟩ = some (.bool false) := by simpa using b30.cell 18
      rw [← hW30, ← hgM]
      have hn1 : NoMv W30 (.pointer none) := .inl rfl
      have hn2 : NoMv W30 (.pointer (some ⟨gM, 0, none⟩)) := .inr ⟨gM, rfl, c30⟩
      clear hW30 hgM b30
      have hw1 := works_no W30 _ hn1
      go_wp2_with fail
      refine hw1.mono ?_
      rintro e w31 ⟨rfl, q31⟩
      have hw2 := works_no w31 _ (hn2.nw q31)
      go_wp2_with fail
      refine hw2.mono ?_
      rintro e w32 ⟨rfl, q32⟩
      have q3032 := q31.tr q32
      have hn1' := hn1.nw q3032
      have hn2' := hn2.nw q3032
      obtain ⟨a2, ha2⟩ : ∃ a, L[2]'(by omega) = a := ⟨_, rfl⟩
      have hc2 := ans_cell (hA.fr ((hfr.tr q30).tr q3032) (fun h => h)) (i := 2) (by omega)
      rw [ha2] at hc2
      have hh := fun (n : Later w32) => handoff_any n.at_ 1 (by omega)
      obtain ⟨x, hx⟩ : ∃ x, hand 1 = x := ⟨_, rfl⟩
      rw [hx] at hh
      have ht := fun (n : Later w32) (v : Value) (h : NoMv w32 v) => tick_no n.at_ v (h.nw n.nw) x true
      have hb := fun (n : Later w32) (v : Value) (t : Int) (h : NoMv w32 v) => answer_no n.at_ v (h.nw n.nw) t a2.1 a2.2.1 a2.2.2
      have haw2 := fun (n : Later w32) => awake_any n.at_
      have y0 := fun (n : Later w32) => n.cell (show w32.cell? ⟨gI, 18, none⟩ = some (I64 a2.1.err) from hc2 0 _ rfl)
      have y1 := fun (n : Later w32) => n.cell (show w32.cell? ⟨gI, 19, none⟩ = some (I64 a2.1.n1) from hc2 1 _ rfl)
      have y2 := fun (n : Later w32) => n.cell (show w32.cell? ⟨gI, 20, none⟩ = some (I64 a2.1.n2) from hc2 2 _ rfl)
      have y3 := fun (n : Later w32) => n.cell (show w32.cell? ⟨gI, 21, none⟩ = some (.bool a2.1.is) from hc2 3 _ rfl)
      have y4 := fun (n : Later w32) => n.cell (show w32.cell? ⟨gI, 22, none⟩ = some (.bool a2.1.cm) from hc2 4 _ rfl)
      have y5 := fun (n : Later w32) => n.cell (show w32.cell? ⟨gI, 23, none⟩ = some (.slice a2.1.Ar a2.1.nr a2.1.cr) from hc2 5 _ rfl)
      have y6 := fun (n : Later w32) => n.cell (show w32.cell? ⟨gI, 24, none⟩ = some (I64 a2.1.sc) from hc2 6 _ rfl)
      have y7 := fun (n : Later w32) => n.cell (show w32.cell? ⟨gI, 25, none⟩ = some (I64 a2.1.st) from hc2 7 _ rfl)
      have y8 := fun (n : Later w32) => n.cell (show w32.cell? ⟨gI, 26, none⟩ = some (.slice a2.2.1 a2.1.bytes.length a2.2.2) from hc2 8 _ rfl)
      clear hx ha2 hc2 hn1 hn2 c30
      go_upto_region 34 with (fail)
      refine wp_region_later (by kernel_rfl) (by kernel_rfl) ?_
      repeat (go_big_quiet_step (first | (go_at_call 21; exact Later.call (hh _)) | (go_at_call 10; exact Later.call (ht _ _ (by first | exact hn1' | exact hn2'))) | (go_at_call 13; exact Later.call (hb _ _ _ (by first | exact hn1' | exact hn2'))) | (go_at_call 6; exact Later.call (haw2 _))))
      refine wpQuiet_later fun w5 q5 => ?_
      go_wp2_with fail
      go_ret
      exact ⟨rfl, ((((qwV.tr hfr).tr q30).tr q31).tr q32).tr q5⟩
end Go.Proofs.YtfglibkffcogcaaGreat
