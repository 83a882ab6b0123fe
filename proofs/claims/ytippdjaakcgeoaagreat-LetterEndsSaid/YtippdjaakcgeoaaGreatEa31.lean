/- Lemmas of the walks: DwB, DwD, AlA, LsA. (Laid together by shake.py.) -/
import Derived.Test.YtippdjaakcgeoaaGreatEa05
import Derived.Test.YtippdjaakcgeoaaGreatEa18
import Derived.Test.YtippdjaakcgeoaaGreatEa26
import Derived.Test.YtippdjaakcgeoaaGreatEa27
import Derived.Test.YtippdjaakcgeoaaGreatEa30
set_option linter.unusedVariables false
set_option linter.unusedSimpArgs false
set_option maxRecDepth 100000
set_option maxHeartbeats 16000000
namespace Go.Proofs.YtippdjaakcgeoaaGreat
open Go Go.RowKit
theorem zdb (w : World) (b n : Nat) (ns : List Int) (cs : Array Value) (hb : Blk w b 3 cs) (hcs : cs.toList = ns.map I64) (hn : ns.length = n) (hl : n ≤ 10) (hr : ∀ x ∈ ns, zcf x) :
  Calls Tryz.prog 72 #[.slice (some ⟨b, 0, none⟩) n n] w fun e w' => ∃ v, e = .returned v ∧ zaJ w (zah ns) v w' := by
 subst hn
 have hs := hb.sl 0 cs.size
 rw [List.drop_zero, List.take_of_length_le (by simp), hcs] at hs
 have hw := zjq w (· = b) (fun _ => False) (fun _ => False) (fun _ => False) (some ⟨b, 0, none⟩) none none none ns.length 0 0 0 ns [] [] [] [] hs (Sl.nil _ _ _) (Sl.nil _ _ _) (Sl.nil _ _ _) ⟨rfl, fun k hk => absurd hk (Nat.not_lt_zero _)⟩ (by omega) (by simp) (by simp [zcn]) (by simp [zcn])
 have hal : zfC ns = true := ziO hr
 have hob : (zgf ns [] [] []).bs = zah ns := by
  unfold zgf
  rw [zeb _ _ hr]
  rfl
 go_enter Tryz.func72, Tryz.ntmps72
 go_wp2_with fail
 refine hw.mono ?_
 rintro e w1 h
 rcases h with ⟨h1, _⟩ | ⟨_, v, rfl, ho⟩
 ·rw [hal] at h1; cases h1
 go_wp2_with fail
 go_ret
 exact ⟨_, rfl, by rw [← hob]; exact ho⟩
theorem zkL (w : World) (b : Bool) : Calls Tryz.prog 147 #[.bool b] w fun e w' => ∃ v, e = .returned v ∧ zaJ w (zcl b) v w' := by
 refine (zho w b).mono ?_
 rintro e w1 ⟨A, c, rfl, ho, hq, hA⟩
 exact ⟨_, rfl, A, c, rfl, ho, hq, hA⟩
theorem zjL {x : LetM} (hok : zaE x.x = true) : (∀ n ∈ [x.kind, x.group, x.src, x.dst, x.term, x.index, x.logt, x.commit], zcf n) ∧ (∀ n ∈ [(x.ents.l.length : Int)], zcf n) ∧ (∀ n ∈ [x.size, x.at_, x.tag], zcf n) := by
 have hsm := (zbw x.x).1 hok
 have hh := hsm.head
 have hn := hsm.nums
 have ht := hsm.tag
 have hh : ((1 ≤ x.kind ∧ x.kind ≤ 8) ∧ (0 ≤ x.group ∧ x.group ≤ 4)) ∧ (1 ≤ x.src ∧ x.src ≤ 5) ∧ (1 ≤ x.dst ∧ x.dst ≤ 5) := hh
 have hn : ((0 ≤ x.term ∧ x.term ≤ 1073741824) ∧ (0 ≤ x.index ∧ x.index ≤ 1073741824)) ∧ ((0 ≤ x.logt ∧ x.logt ≤ 1073741824) ∧ (0 ≤ x.commit ∧ x.commit ≤ 1073741824)) ∧ (0 ≤ x.size ∧ x.size ≤ 1073741824) ∧ (0 ≤ x.at_ ∧ x.at_ ≤ 1073741824) := hn
 have ht : 0 ≤ x.tag ∧ x.tag ≤ 4611686018427387903 := ht
 refine ⟨fun n hm => ?_, fun n hm => ?_, fun n hm => ?_⟩
 ·simp only [List.mem_cons, List.not_mem_nil, or_false] at hm
  rcases hm with rfl | rfl | rfl | rfl | rfl | rfl | rfl | rfl <;> exact zbI _ (by omega) (by omega)
 ·rw [List.mem_singleton.1 hm]
  exact zdj _ (by have := hsm.ents.1; rw [List.length_map] at this; omega)
 ·simp only [List.mem_cons, List.not_mem_nil, or_false] at hm
  rcases hm with rfl | rfl | rfl
  ·exact zbI _ (by omega) (by omega)
  ·exact zbI _ (by omega) (by omega)
  ·exact ⟨ht.1, by unfold topN; omega⟩
def DoRel (w : World) (f : Nat → List UInt8) (n : Nat) (out i : Value) (wr : World) : Prop := ∃ k : Nat, k ≤ n ∧ i = .int .i64 k ∧ zaJ w (f k) out wr
theorem zlv (w : World) (F : Nat → Prop) (x : LetM) (hx : za3 w F x) (hok : zaE x.x = true) :
  Calls Tryz.prog 73 #[.agg (letA x)] w fun e w' => ∃ v, e = .returned v ∧ zaJ w (letB x.x) v w' := by
 have hsm := (zbw x.x).1 hok
 obtain ⟨hr8, hr1, hr3⟩ := zjL hok
 have hel : x.ents.l.length ≤ 30 := by have := hsm.ents.1; rwa [List.length_map] at this
 have hbl : x.bytes.l.length ≤ 131072 := hsm.bytes
 have hee : ∀ e ∈ x.ents.l, zbm e.x = true := fun e he => hsm.ents.2 _ (List.mem_map.2 ⟨e, he, rfl⟩)
 have hbs : zbi x.base.x = true := hsm.base
 have hkd : 0 ≤ x.kind ∧ x.kind ≤ 255 := hx.kind
 have hcv : IntKind.i64.wrap x.kind = x.kind := IntWalk.i64_in _ (by omega)
 obtain ⟨X, hX⟩ : ∃ X, X = w.heap.size := ⟨_, rfl⟩
 obtain ⟨W1, hW1⟩ : ∃ W, W = w.alloc (.cells (letA x) 50) := ⟨_, rfl⟩
 have p0 : Nw w W1 := by rw [hW1]; exact (Fr.refl (fun _ => False) _).alloc _
 have x1 : Blk W1 X 50 (letA x) := by rw [hW1, hX]; exact Blk.new _ _ _
 have hS : ∀ w1, Nw W1 w1 → w1.cell? ⟨X, 0, none⟩ = some (U8V x.kind) ∧ w1.cell? ⟨X, 1, none⟩ = some (I64 x.group) ∧ w1.cell? ⟨X, 2, none⟩ = some (I64 x.src) ∧ w1.cell? ⟨X, 3, none⟩ = some (I64 x.dst) ∧ w1.cell? ⟨X, 4, none⟩ = some (I64 x.term) ∧ w1.cell? ⟨X, 5, none⟩ = some (I64 x.index) ∧ w1.cell? ⟨X, 6, none⟩ = some (I64 x.logt) ∧ w1.cell? ⟨X, 7, none⟩ = some (I64 x.commit) ∧ w1.cell? ⟨X, 8, none⟩ = some (.bool x.ok) ∧ w1.cell? ⟨X, 9, none⟩ = some (.slice x.ents.a x.ents.l.length x.ents.c) ∧ w1.cell? ⟨X, 10, none⟩ = some (I64 x.base.index) ∧ w1.cell? ⟨X, 11, none⟩ = some (I64 x.base.term) ∧ w1.cell? ⟨X, 12, none⟩ = some (.slice x.base.cfg.v.a x.base.cfg.v.l.length x.base.cfg.v.c) ∧ w1.cell? ⟨X, 13, none⟩ = some (.slice x.base.cfg.o.a x.base.cfg.o.l.length x.base.cfg.o.c) ∧ w1.cell? ⟨X, 14, none⟩ = some (.slice x.base.cfg.l.a x.base.cfg.l.l.length x.base.cfg.l.c) ∧ w1.cell? ⟨X, 15, none⟩ = some (.slice x.base.cfg.w.a x.base.cfg.w.l.length x.base.cfg.w.c) ∧ w1.cell? ⟨X, 16, none⟩ = some (I64 x.size) ∧ w1.cell? ⟨X, 17, none⟩ = some (I64 x.at_) ∧ w1.cell? ⟨X, 18, none⟩ = some (I64 x.tag) ∧ w1.cell? ⟨X, 19, none⟩ = some (.slice x.bytes.a x.bytes.l.length x.bytes.c) := fun w1 f => by
  have a := x1.fr f (fun h => h)
  exact ⟨by simpa using a.cell 0, by simpa using a.cell 1, by simpa using a.cell 2, by simpa using a.cell 3, by simpa using a.cell 4, by simpa using a.cell 5, by simpa using a.cell 6, by simpa using a.cell 7, by simpa using a.cell 8, by simpa using a.cell 9, by simpa using a.cell 10, by simpa using a.cell 11, by simpa using a.cell 12, by simpa using a.cell 13, by simpa using a.cell 14, by simpa using a.cell 15, by simpa using a.cell 16, by simpa using a.cell 17, by simpa using a.cell 18, by simpa using a.cell 19⟩
 have hx1 := hx.nw p0
 have M1 := zbZ [x.kind, x.group, x.src, x.dst, x.term, x.index, x.logt, x.commit]
 have M2 := zbZ [(x.ents.l.length : Int)]
 have M3 := zbZ [x.size, x.at_, x.tag]
 have M4 := zdo x.bytes.l
 have M5 : ∀ k, (zaX ((x.ents.l.take k).map EntM.x)).length ≤ 131400 * 30 := fun k => by
  have h1 := zeY ((x.ents.l.take k).map EntM.x) (fun y hy => by
   obtain ⟨e, he, rfl⟩ := List.mem_map.1 hy
   exact hee e (List.mem_of_mem_take he))
  have h2 : ((x.ents.l.take k).map EntM.x).length ≤ 30 := by rw [List.length_map, List.length_take]; omega
  omega
 have M6 := zh4 hbs
 simp only [List.length_cons, List.length_nil] at M1 M2 M3
 have HS := Lib.hid hS
 have HX := Lib.hid hX
 have HW1 := Lib.hid hW1
 obtain ⟨s0, s1, s2, s3, s4, s5, s6, s7, s8, s9, s10, s11, s12, s13, s14, s15, s16, s17, s18, s19⟩ := HS.out W1 (Fr.refl _ _)
 obtain ⟨A1, hA1⟩ : ∃ W, W = W1.alloc (.cells #[I64 x.kind, I64 x.group, I64 x.src, I64 x.dst, I64 x.term, I64 x.index, I64 x.logt, I64 x.commit] 3) := ⟨_, rfl⟩
 have pa : Nw W1 A1 := by rw [hA1]; exact (Fr.refl (fun _ => False) _).alloc _
 have ba : Blk A1 W1.heap.size 3 #[I64 x.kind, I64 x.group, I64 x.src, I64 x.dst, I64 x.term, I64 x.index, I64 x.logt, I64 x.commit] := by rw [hA1]; exact Blk.new _ _ _
 have hn1 := zdb A1 W1.heap.size 8 [x.kind, x.group, x.src, x.dst, x.term, x.index, x.logt, x.commit] #[I64 x.kind, I64 x.group, I64 x.src, I64 x.dst, I64 x.term, I64 x.index, I64 x.logt, I64 x.commit] ba rfl rfl (by omega) hr8
 have HA1 := Lib.hid hA1
 clear hS hX hW1 hA1
 go_enter Tryz.func73, Tryz.ntmps73
 go_upto_region 1 with (fail)
 rw [← HX.out, ← HW1.out]
 go_upto_region 2 with (go_at_call 72; rw [← HA1.out]; refine hn1.mono ?_; rintro e w2 ⟨_, rfl, ho2⟩)
 obtain ⟨A0, c0, he0, o0, q0, n0'⟩ := ho2.back pa
 subst he0
 clear ho2 hn1 pa ba s0 s1 s2 s3 s4 s5 s6 s7 s8 s9 s10 s11 s12 s13 s14 s15 s16 s17 s18 s19
 go_cut [3] (fun v wx => zaJ W1 (zah [x.kind, x.group, x.src, x.dst, x.term, x.index, x.logt, x.commit] ++ zcl x.ok ++ zah [(x.ents.l.length : Int)]) v wx)
 case first =>
  obtain ⟨bs0, hbs0⟩ : ∃ b, zah [x.kind, x.group, x.src, x.dst, x.term, x.index, x.logt, x.commit] = b := ⟨_, rfl⟩
  obtain ⟨y1, hy1⟩ : ∃ b, zcl x.ok = b := ⟨_, rfl⟩
  obtain ⟨y2, hy2⟩ : ∃ b, zah [(x.ents.l.length : Int)] = b := ⟨_, rfl⟩
  have h1 : ∀ wz, Nw W1 wz → _ := fun wz f => zkL wz x.ok
  have h2 : ∀ wz b, Nw W1 wz → Blk wz b 3 #[I64 x.ents.l.length] → _ := fun wz b f hb => zdb wz b 1 [(x.ents.l.length : Int)] #[I64 x.ents.l.length] hb rfl rfl (by omega) hr1
  have Mb0 := M1
  have Mb1 : (zcl x.ok).length ≤ 1 := Nat.le_refl _
  have Mb2 := M2
  rw [hbs0] at o0 Mb0
  rw [hy1] at h1 Mb1
  rw [hy2] at h2 Mb2
  have hP : DwH (⟨W1, w2, A0, c0, bs0, y1, y2, #[I64 x.ents.l.length], 3, 4, 8, 9, 10⟩ : DwP) := ⟨q0.size, n0'⟩
  have hI : DwI (⟨W1, w2, A0, c0, bs0, y1, y2, #[I64 x.ents.l.length], 3, 4, 8, 9, 10⟩ : DwP) := ⟨(by decide : (3 : Nat) ≠ 4 ∧ (3 : Nat) ≠ 8 ∧ (3 : Nat) ≠ 9 ∧ (3 : Nat) ≠ 10), (by decide : (4 : Nat) ≠ 8 ∧ (4 : Nat) ≠ 9 ∧ (4 : Nat) ≠ 10), (by decide : (8 : Nat) ≠ 9 ∧ (8 : Nat) ≠ 10 ∧ (9 : Nat) ≠ 10)⟩
  have hst := DwC.start hP o0 q0 (fun _ => (0, none))
  have H1 := Lib.hid h1
  have H2 := Lib.hid h2
  have HB0 := Lib.hid (And.intro hbs0 (And.intro hy1 hy2))
  try rw [hbs0]
  clear h1 h2 hbs0 hy1 hy2
  refine zcy _ _ (by kernel_rfl) (by kernel_rfl) hst ?_
  clear hst
  apply za6
  focus
   intro B L wz hL hD hC
   refine .inl ⟨by rfl, ?_⟩
   obtain ⟨s0, s1, s2, s3, s4, s5, s6, s7, s8, s9, s10, s11, s12, s13, s14, s15, s16, s17, s18, s19⟩ := HS.out wz (DwS.nw hC)
   unfold za2
   go_simp
   exact ⟨rfl, hC.keep _ (by rfl)⟩
  simp only [Act.put, sA9, sB9, sC9]
  apply za6
  focus
   intro B L wz hL hD hC
   refine .inl ⟨by rfl, ?_⟩
   obtain ⟨s0, s1, s2, s3, s4, s5, s6, s7, s8, s9, s10, s11, s12, s13, s14, s15, s16, s17, s18, s19⟩ := HS.out wz (DwS.nw hC)
   unfold za2
   go_simp
   exact ⟨rfl, hC.keep _ (by rfl)⟩
  simp only [Act.put, sA9, sB9, sC9]
  apply za6
  focus
   intro B L wz hL hD hC
   refine .inl ⟨by rfl, ?_⟩
   obtain ⟨s0, s1, s2, s3, s4, s5, s6, s7, s8, s9, s10, s11, s12, s13, s14, s15, s16, s17, s18, s19⟩ := HS.out wz (DwS.nw hC)
   unfold za2
   go_simp
   exact ⟨rfl, hC.keep _ (by rfl)⟩
  simp only [Act.put, sA9, sB9, sC9]
  refine zaT (fun b => .slice b.2 y1.length b.1) ?_ ?_
  focus
   intro B L wz hL hD hC
   have hnw := DwS.nw hC
   refine .inl ⟨by rfl, ?_⟩
   unfold zc2
   go_simp
   refine (H1.out wz hnw).mono ?_
   rintro e w9 ⟨v, rfl, ho⟩
   obtain ⟨b, rfl, h9⟩ := DwC.call1 hI hC hL ho
   exact ⟨b, rfl, h9⟩
  simp only [Act.put, sA9, sB9, sC9]
  refine zaT (fun b => .slice b.2 (bs0.length + y1.length) b.1) ?_ ?_
  focus
   intro B L wz hL hD hC
   obtain ⟨o1, o2, h9⟩ := DwC.app1 hP hI hC (hD 3 (by kernel_rfl)) hL
   refine .inl ⟨by rfl, ?_⟩
   exact zdL _ _ _ rfl 1 (.int .u8 0) Tryz.underlying48 zaL rfl (by decide) rfl o1 rfl o2.sl (by simp) (zar _) (by omega) (by unfold maxLen; omega) (fun A9 c9 w9 hap => ⟨rfl, h9 A9 c9 w9 hap⟩)
  simp only [Act.put, sA9, sB9, sC9]
  apply za6
  focus
   intro B L wz hL hD hC
   refine .inl ⟨by rfl, ?_⟩
   obtain ⟨s0, s1, s2, s3, s4, s5, s6, s7, s8, s9, s10, s11, s12, s13, s14, s15, s16, s17, s18, s19⟩ := HS.out wz (DwS.nw hC)
   unfold za2
   go_simp
   exact ⟨rfl, hC.keep _ (by rfl)⟩
  simp only [Act.put, sA9, sB9, sC9]
  apply za6
  focus
   intro B L wz hL hD hC
   refine .inl ⟨by rfl, ?_⟩
   obtain ⟨s0, s1, s2, s3, s4, s5, s6, s7, s8, s9, s10, s11, s12, s13, s14, s15, s16, s17, s18, s19⟩ := HS.out wz (DwS.nw hC)
   unfold za2
   go_simp
   exact ⟨rfl, hC.keep _ (by rfl)⟩
  simp only [Act.put, sA9, sB9, sC9]
  apply za6
  focus
   intro B L wz hL hD hC
   refine .inl ⟨by rfl, ?_⟩
   obtain ⟨s0, s1, s2, s3, s4, s5, s6, s7, s8, s9, s10, s11, s12, s13, s14, s15, s16, s17, s18, s19⟩ := HS.out wz (DwS.nw hC)
   unfold za2
   go_simp
   exact ⟨rfl, hC.keep _ (by rfl)⟩
  simp only [Act.put, sA9, sB9, sC9]
  refine zaT (fun b => .slice (some ⟨b.1, 0, none⟩) 1 1) ?_ ?_
  focus
   intro B L wz hL hD hC
   refine .inl ⟨by rfl, ?_⟩
   unfold zc2
   go_simp
   exact ⟨(wz.heap.size, none), rfl, DwC.build hI hC⟩
  simp only [Act.put, sA9, sB9, sC9]
  refine zaT (fun b => .slice b.2 y2.length b.1) ?_ ?_
  focus
   intro B L wz hL hD hC
   have hnw := DwS.nw hC
   obtain ⟨hbk, h9⟩ := DwC.call2 hI hC (hD 4 (by kernel_rfl)) (hD 8 (by kernel_rfl)) hL
   refine .inl ⟨by rfl, ?_⟩
   unfold zc2
   go_simp
   refine (H2.out wz (B 8).1 hnw hbk).mono ?_
   rintro e w9 ⟨v, rfl, ho⟩
   obtain ⟨b, rfl, h9⟩ := h9 _ _ ho
   exact ⟨b, rfl, h9⟩
  simp only [Act.put, sA9, sB9, sC9]
  refine zaT (fun b => .slice b.2 (bs0.length + y1.length + y2.length) b.1) ?_ ?_
  focus
   intro B L wz hL hD hC
   obtain ⟨o1, o2, h9⟩ := DwC.app2 hP hI hC (hD 4 (by kernel_rfl)) (hD 9 (by kernel_rfl)) hL
   refine .inl ⟨by rfl, ?_⟩
   exact zdL _ _ _ rfl 1 (.int .u8 0) Tryz.underlying48 zaL rfl (by decide) rfl o1 rfl o2.sl (by simp) (zar _) (by omega) (by unfold maxLen; omega) (fun A9 c9 w9 hap => ⟨rfl, h9 A9 c9 w9 hap⟩)
  simp only [Act.put, sA9, sB9, sC9]
  refine zf2 (fun B => .slice (B 10).2 (bs0.length + y1.length + y2.length) (B 10).1) (fun B B2 h => by have e := h 10 (by kernel_rfl); simp only [e]) ?_ ?_
  focus
   intro B L wz hL hD hC
   refine .inl ⟨by rfl, ?_⟩
   unfold za2
   go_simp
   exact ⟨rfl, hC.keep _ (by rfl)⟩
  simp only [Act.put, sA9, sB9, sC9]
  refine zdz fun B w3 hC5 => ?_
  obtain ⟨hg, q3⟩ := DwC.done hC5 rfl
  have t3 : zaJ W1 (bs0 ++ y1 ++ y2) (.slice (B 10).2 (bs0.length + y1.length + y2.length) (B 10).1) w3 := hg.out q0 n0' (by simp only [List.length_append])
  go_wp2_with fail
  go_meet
  rw [HB0.out.1, HB0.out.2.1, HB0.out.2.2]
  exact t3
 case rest =>
 obtain ⟨w3, hw3⟩ : ∃ w3, w3 = wc := ⟨_, rfl⟩
 rw [← hw3] at hcut ⊢
 clear hw3 o0 q0 n0'
 obtain ⟨bs1, hb1⟩ : ∃ b, zah [x.kind, x.group, x.src, x.dst, x.term, x.index, x.logt, x.commit] ++ zcl x.ok ++ zah [(x.ents.l.length : Int)] = b := ⟨_, rfl⟩
 have hb1l : bs1.length ≤ 1000 := by rw [← hb1, List.length_append, List.length_append]; simp only [zcl, List.length_cons, List.length_nil]; omega
 have HB1 := Lib.hid hb1
 rw [hb1] at hcut
 have t3' := hcut
 rw [show bs1 = bs1 ++ zaX ((x.ents.l.take 0).map EntM.x) by simp [zaX]] at t3'
 clear hb1
 have HSN := Lib.hid (zgF x.ents.l)
 have HEE := Lib.hid hee
 go_wp2_with fail
 go_loopw [3, 4] (fun o i wx => DoRel W1 (fun k => bs1 ++ zaX ((x.ents.l.take k).map EntM.x)) x.ents.l.length o i wx) (fun _ i _ => x.ents.l.length - (intOf i).toNat)
 case atStart => exact ⟨0, Nat.zero_le _, rfl, t3'⟩
 case round =>
  clear t3'
  obtain ⟨k, hk, rfl, A0, c0, rfl, o0, q0, n0'⟩ := hrel
  have M5k := M5 k
  have l9 : wr.cell? ⟨X, 9, none⟩ = some (.slice x.ents.a x.ents.l.length x.ents.c) := (HS.out wr q0).2.2.2.2.2.2.2.2.2.1
  by_cases hlt : k < x.ents.l.length
  ·have hi0 : (k : Int) < (x.ents.l.length : Int) := by omega
   obtain ⟨b, of, hxa, _, _, hc⟩ := (hx1.ents.nw q0).sl.ent hlt
   have ie := (hx1.each _ (List.getElem_mem hlt)).nw q0
   have hoke := HEE.out _ (List.getElem_mem hlt)
   have hsn := HSN.out k hlt
   obtain ⟨e, he⟩ : ∃ e, x.ents.l[k] = e := ⟨_, rfl⟩
   rw [he] at hc ie hoke hsn
   have hce := zkb wr F e ie hoke
   have hle := zje hoke
   obtain ⟨bs0, hbs0⟩ : ∃ b, bs1 ++ zaX ((x.ents.l.take k).map EntM.x) = b := ⟨_, rfl⟩
   have hbl0 : bs0.length ≤ 10000000 := by rw [← hbs0, List.length_append]; omega
   obtain ⟨y, hy⟩ : ∃ b, entB e.x = b := ⟨_, rfl⟩
   rw [hy] at hce hle hsn
   simp only [hbs0] at o0 ⊢
   have HB2 := Lib.hid hbs0
   have HSK := Lib.hid hsn
   rw [hxa] at l9
   clear hbs0 hy hsn he hxa
   go_wp2_with (refine za5 rfl 87 _ rfl b (of + k * 7) rfl (entL e) _ hc Tryz.underlying87 rfl (by kernel_rfl) ?_)
   refine hce.mono ?_
   rintro e9 w5 ⟨_, rfl, A2, c2, rfl, o2, q2, n2⟩
   have o0' := o0.fr q2 (fun _ _ h => h)
   go_wp2_with (at_builtin; refine zay rfl _ _ _ rfl 1 (.int .u8 0) Tryz.underlying48 zaL rfl (by decide) rfl o0' rfl o2.sl (by simp) (zar _) (by omega) (by unfold maxLen; omega) ?_; intro B' c' w6 hap)
   go_roundw
   case rel =>
    refine ⟨k + 1, hlt, by go_num, ?_⟩
    show zaJ W1 (bs1 ++ zaX ((x.ents.l.take (k + 1)).map EntM.x)) _ _
    rw [HSK.out, ← List.append_assoc, HB2.out]
    exact zaJ.app o0 q0 n0' q2 rfl hap
   case measure => simp [intOf]; omega
  ·obtain rfl : k = x.ents.l.length := by omega
   go_upto_region 7 with (fail)
   replace o0 : Own wr 5 1 A0 (bs1 ++ zaX ((x.ents.l.take x.ents.l.length).map EntM.x)).length c0 ((bs1 ++ zaX ((x.ents.l.take x.ents.l.length).map EntM.x)).map B8) := o0
   go_cut [3] (fun v wx => zaJ W1 (bs1 ++ zaX ((x.ents.l.take x.ents.l.length).map EntM.x) ++ basB x.base.x ++ zah [x.size, x.at_, x.tag]) v wx)
   case first =>
    obtain ⟨bs0, hbs0⟩ : ∃ b, bs1 ++ zaX ((x.ents.l.take x.ents.l.length).map EntM.x) = b := ⟨_, rfl⟩
    obtain ⟨y1, hy1⟩ : ∃ b, basB x.base.x = b := ⟨_, rfl⟩
    obtain ⟨y2, hy2⟩ : ∃ b, zah [x.size, x.at_, x.tag] = b := ⟨_, rfl⟩
    have h1 : ∀ wz, Nw W1 wz → _ := fun wz f => zlg wz F x.base (hx1.cfg.nw f) hbs
    have h2 : ∀ wz b, Nw W1 wz → Blk wz b 3 #[I64 x.size, I64 x.at_, I64 x.tag] → _ := fun wz b f hb => zdb wz b 3 [x.size, x.at_, x.tag] #[I64 x.size, I64 x.at_, I64 x.tag] hb rfl rfl (by omega) hr3
    have Mb0 : (bs1 ++ zaX ((x.ents.l.take x.ents.l.length).map EntM.x)).length ≤ 10000000 := by rw [List.length_append]; omega
    have Mb1 := M6
    have Mb2 := M3
    rw [hbs0] at o0 Mb0
    rw [hy1] at h1 Mb1
    rw [hy2] at h2 Mb2
    have hP : DwH (⟨W1, wr, A0, c0, bs0, y1, y2, #[I64 x.size, I64 x.at_, I64 x.tag], 3, 4, 11, 12, 13⟩ : DwP) := ⟨q0.size, n0'⟩
    have hI : DwI (⟨W1, wr, A0, c0, bs0, y1, y2, #[I64 x.size, I64 x.at_, I64 x.tag], 3, 4, 11, 12, 13⟩ : DwP) := ⟨(by decide : (3 : Nat) ≠ 4 ∧ (3 : Nat) ≠ 11 ∧ (3 : Nat) ≠ 12 ∧ (3 : Nat) ≠ 13), (by decide : (4 : Nat) ≠ 11 ∧ (4 : Nat) ≠ 12 ∧ (4 : Nat) ≠ 13), (by decide : (11 : Nat) ≠ 12 ∧ (11 : Nat) ≠ 13 ∧ (12 : Nat) ≠ 13)⟩
    have hst := DwC.start hP o0 q0 (fun _ => (0, none))
    have H1 := Lib.hid h1
    have H2 := Lib.hid h2
    have HB0 := Lib.hid (And.intro hbs0 (And.intro hy1 hy2))
    try rw [hbs0]
    clear h1 h2 hbs0 hy1 hy2
    refine zcy _ _ (by kernel_rfl) (by kernel_rfl) hst ?_
    clear hst
    apply za6
    focus
     intro B L wz hL hD hC
     refine .inl ⟨by rfl, ?_⟩
     obtain ⟨s0, s1, s2, s3, s4, s5, s6, s7, s8, s9, s10, s11, s12, s13, s14, s15, s16, s17, s18, s19⟩ := HS.out wz (DwS.nw hC)
     unfold za2
     go_simp
     exact ⟨rfl, hC.keep _ (by rfl)⟩
    simp only [Act.put, sA9, sB9, sC9]
    apply za6
    focus
     intro B L wz hL hD hC
     refine .inl ⟨by rfl, ?_⟩
     obtain ⟨s0, s1, s2, s3, s4, s5, s6, s7, s8, s9, s10, s11, s12, s13, s14, s15, s16, s17, s18, s19⟩ := HS.out wz (DwS.nw hC)
     unfold za2
     go_simp
     exact ⟨rfl, hC.keep _ (by rfl)⟩
    simp only [Act.put, sA9, sB9, sC9]
    apply za6
    focus
     intro B L wz hL hD hC
     refine .inl ⟨by rfl, ?_⟩
     obtain ⟨s0, s1, s2, s3, s4, s5, s6, s7, s8, s9, s10, s11, s12, s13, s14, s15, s16, s17, s18, s19⟩ := HS.out wz (DwS.nw hC)
     unfold za2
     go_simp
     exact ⟨rfl, hC.keep _ (by rfl)⟩
    simp only [Act.put, sA9, sB9, sC9]
    refine zaT (fun b => .slice b.2 y1.length b.1) ?_ ?_
    focus
     intro B L wz hL hD hC
     have hnw := DwS.nw hC
     refine .inl ⟨by rfl, ?_⟩
     unfold zc2
     go_simp
     refine (H1.out wz hnw).mono ?_
     rintro e w9 ⟨v, rfl, ho⟩
     obtain ⟨b, rfl, h9⟩ := DwC.call1 hI hC hL ho
     exact ⟨b, rfl, h9⟩
    simp only [Act.put, sA9, sB9, sC9]
    refine zaT (fun b => .slice b.2 (bs0.length + y1.length) b.1) ?_ ?_
    focus
     intro B L wz hL hD hC
     obtain ⟨o1, o2, h9⟩ := DwC.app1 hP hI hC (hD 3 (by kernel_rfl)) hL
     refine .inl ⟨by rfl, ?_⟩
     exact zdL _ _ _ rfl 1 (.int .u8 0) Tryz.underlying48 zaL rfl (by decide) rfl o1 rfl o2.sl (by simp) (zar _) (by omega) (by unfold maxLen; omega) (fun A9 c9 w9 hap => ⟨rfl, h9 A9 c9 w9 hap⟩)
    simp only [Act.put, sA9, sB9, sC9]
    apply za6
    focus
     intro B L wz hL hD hC
     refine .inl ⟨by rfl, ?_⟩
     obtain ⟨s0, s1, s2, s3, s4, s5, s6, s7, s8, s9, s10, s11, s12, s13, s14, s15, s16, s17, s18, s19⟩ := HS.out wz (DwS.nw hC)
     unfold za2
     go_simp
     exact ⟨rfl, hC.keep _ (by rfl)⟩
    simp only [Act.put, sA9, sB9, sC9]
    apply za6
    focus
     intro B L wz hL hD hC
     refine .inl ⟨by rfl, ?_⟩
     obtain ⟨s0, s1, s2, s3, s4, s5, s6, s7, s8, s9, s10, s11, s12, s13, s14, s15, s16, s17, s18, s19⟩ := HS.out wz (DwS.nw hC)
     unfold za2
     go_simp
     exact ⟨rfl, hC.keep _ (by rfl)⟩
    simp only [Act.put, sA9, sB9, sC9]
    apply za6
    focus
     intro B L wz hL hD hC
     refine .inl ⟨by rfl, ?_⟩
     obtain ⟨s0, s1, s2, s3, s4, s5, s6, s7, s8, s9, s10, s11, s12, s13, s14, s15, s16, s17, s18, s19⟩ := HS.out wz (DwS.nw hC)
     unfold za2
     go_simp
     exact ⟨rfl, hC.keep _ (by rfl)⟩
    simp only [Act.put, sA9, sB9, sC9]
    apply za6
    focus
     intro B L wz hL hD hC
     refine .inl ⟨by rfl, ?_⟩
     obtain ⟨s0, s1, s2, s3, s4, s5, s6, s7, s8, s9, s10, s11, s12, s13, s14, s15, s16, s17, s18, s19⟩ := HS.out wz (DwS.nw hC)
     unfold za2
     go_simp
     exact ⟨rfl, hC.keep _ (by rfl)⟩
    simp only [Act.put, sA9, sB9, sC9]
    apply za6
    focus
     intro B L wz hL hD hC
     refine .inl ⟨by rfl, ?_⟩
     obtain ⟨s0, s1, s2, s3, s4, s5, s6, s7, s8, s9, s10, s11, s12, s13, s14, s15, s16, s17, s18, s19⟩ := HS.out wz (DwS.nw hC)
     unfold za2
     go_simp
     exact ⟨rfl, hC.keep _ (by rfl)⟩
    simp only [Act.put, sA9, sB9, sC9]
    apply za6
    focus
     intro B L wz hL hD hC
     refine .inl ⟨by rfl, ?_⟩
     obtain ⟨s0, s1, s2, s3, s4, s5, s6, s7, s8, s9, s10, s11, s12, s13, s14, s15, s16, s17, s18, s19⟩ := HS.out wz (DwS.nw hC)
     unfold za2
     go_simp
     exact ⟨rfl, hC.keep _ (by rfl)⟩
    simp only [Act.put, sA9, sB9, sC9]
    refine zaT (fun b => .slice (some ⟨b.1, 0, none⟩) 3 3) ?_ ?_
    focus
     intro B L wz hL hD hC
     refine .inl ⟨by rfl, ?_⟩
     unfold zc2
     go_simp
     exact ⟨(wz.heap.size, none), rfl, DwC.build hI hC⟩
    simp only [Act.put, sA9, sB9, sC9]
    refine zaT (fun b => .slice b.2 y2.length b.1) ?_ ?_
    focus
     intro B L wz hL hD hC
     have hnw := DwS.nw hC
     obtain ⟨hbk, h9⟩ := DwC.call2 hI hC (hD 4 (by kernel_rfl)) (hD 11 (by kernel_rfl)) hL
     refine .inl ⟨by rfl, ?_⟩
     unfold zc2
     go_simp
     refine (H2.out wz (B 11).1 hnw hbk).mono ?_
     rintro e w9 ⟨v, rfl, ho⟩
     obtain ⟨b, rfl, h9⟩ := h9 _ _ ho
     exact ⟨b, rfl, h9⟩
    simp only [Act.put, sA9, sB9, sC9]
    refine zaT (fun b => .slice b.2 (bs0.length + y1.length + y2.length) b.1) ?_ ?_
    focus
     intro B L wz hL hD hC
     obtain ⟨o1, o2, h9⟩ := DwC.app2 hP hI hC (hD 4 (by kernel_rfl)) (hD 12 (by kernel_rfl)) hL
     refine .inl ⟨by rfl, ?_⟩
     exact zdL _ _ _ rfl 1 (.int .u8 0) Tryz.underlying48 zaL rfl (by decide) rfl o1 rfl o2.sl (by simp) (zar _) (by omega) (by unfold maxLen; omega) (fun A9 c9 w9 hap => ⟨rfl, h9 A9 c9 w9 hap⟩)
    simp only [Act.put, sA9, sB9, sC9]
    refine zf2 (fun B => .slice (B 13).2 (bs0.length + y1.length + y2.length) (B 13).1) (fun B B2 h => by have e := h 13 (by kernel_rfl); simp only [e]) ?_ ?_
    focus
     intro B L wz hL hD hC
     refine .inl ⟨by rfl, ?_⟩
     unfold za2
     go_simp
     exact ⟨rfl, hC.keep _ (by rfl)⟩
    simp only [Act.put, sA9, sB9, sC9]
    refine zdz fun B w3 hC5 => ?_
    obtain ⟨hg, q3⟩ := DwC.done hC5 rfl
    have t3 : zaJ W1 (bs0 ++ y1 ++ y2) (.slice (B 13).2 (bs0.length + y1.length + y2.length) (B 13).1) w3 := hg.out q0 n0' (by simp only [List.length_append])
    go_wp2_with fail
    go_meet
    rw [HB0.out.1, HB0.out.2.1, HB0.out.2.2]
    exact t3
   case rest =>
   obtain ⟨w8, hw8⟩ : ∃ w8, w8 = wc := ⟨_, rfl⟩
   rw [← hw8] at hcut ⊢
   clear hw8 o0 q0 n0' l9
   have hall : bs1 ++ zaX ((x.ents.l.take x.ents.l.length).map EntM.x) ++ basB x.base.x ++ zah [x.size, x.at_, x.tag] ++ rowB x.bytes.l = letB x.x := by
    rw [List.take_of_length_le (Nat.le_refl _), ← HB1.out]
    simp [letB, zcd, zah]
   obtain ⟨bs7, hb7⟩ : ∃ b, bs1 ++ zaX ((x.ents.l.take x.ents.l.length).map EntM.x) ++ basB x.base.x ++ zah [x.size, x.at_, x.tag] = b := ⟨_, rfl⟩
   have hb7l : bs7.length ≤ 20000000 := by rw [← hb7]; simp only [List.length_append]; omega
   rw [hb7] at hcut hall
   clear hb7
   obtain ⟨A7, c7, rfl, o7, q7, n7⟩ := hcut
   have l19 : w8.cell? ⟨X, 19, none⟩ = some (.slice x.bytes.a x.bytes.l.length x.bytes.c) := by simpa using (x1.fr q7 (fun h => h)).cell 19
   have hcr := zif w8 F x.bytes.a x.bytes.c x.bytes.l ((hx1.bytes.nw q7).sl) (by omega)
   obtain ⟨y, hy⟩ : ∃ b, rowB x.bytes.l = b := ⟨_, rfl⟩
   rw [hy] at hcr hall M4
   clear hy
   have HALL := Lib.hid hall
   clear hall
   go_wp2_with fail
   refine hcr.mono ?_
   rintro e9 w9 ⟨_, rfl, A9, c9, rfl, o9, q9, n9⟩
   have o7' := o7.fr q9 (fun _ _ h => h)
   go_wp2_with (at_builtin; refine zay rfl _ _ _ rfl 1 (.int .u8 0) Tryz.underlying48 zaL rfl (by decide) rfl o7' rfl o9.sl (by simp) (zar _) (by omega) (by unfold maxLen; omega) ?_; intro B' c' w10 hap)
   go_ret
   refine ⟨_, rfl, ?_⟩
   rw [← HALL.out]
   exact (zaJ.app o7 q7 n7 q9 rfl hap).back p0
open Go Go.RowKit
def DpRel (w : World) (l : List LetM) (out i : Value) (wr : World) : Prop := ∃ k : Nat, k ≤ l.length ∧ i = .int .i64 k ∧ (∀ j (h : j < l.length), j < k → zaE (l[j]).x = true) ∧ zaJ w (enc l.length ++ zc1 l k) out wr
theorem zkp (l : List LetM) (k : Nat) (hk : k ≤ l.length) (h : ∀ j (h : j < l.length), j < k → zaE (l[j]).x = true) : (zc1 l k).length ≤ 4200000 * l.length := by
 have h1 := zg6 (l.take k) k (fun x hx => by
  obtain ⟨j, hj, rfl⟩ := List.mem_iff_getElem.1 hx
  rw [List.length_take] at hj
  rw [List.getElem_take]
  exact h j (by omega) (by omega))
 have e : zc1 (l.take k) k = zc1 l k := by unfold zc1; rw [List.take_take, Nat.min_self]
 rw [e, List.length_take] at h1
 have : 4200000 * min k l.length ≤ 4200000 * l.length := Nat.mul_le_mul_left _ (Nat.min_le_right _ _)
 omega
theorem zii (w : World) (F : Nat → Prop) (A : Option Addr) (c : Nat) (l : List LetM) (h : Sl w F A (zai l)) (he : ∀ x ∈ l, za3 w F x) (hz : ∀ x ∈ l, za8 x) (hsz : l.length ≤ 10000) :
  Calls Tryz.prog 32 #[.slice A l.length c] w fun e w' => zet w (zbU (l.map LetM.x)) e w' := by
 have hgo : ∀ r, zbU (l.map LetM.x) = r → Calls Tryz.prog 32 #[.slice A l.length c] w fun e w' => zet w r e w' := by
  intro r hr
  have HR := Lib.hid hr
  clear hr
  obtain ⟨A1, hA1⟩ : ∃ W, W = w.alloc (.cells #[I64 l.length] 3) := ⟨_, rfl⟩
  have pa : Nw w A1 := by rw [hA1]; exact (Fr.refl (fun _ => False) _).alloc _
  have ba : Blk A1 w.heap.size 3 #[I64 l.length] := by rw [hA1]; exact Blk.new _ _ _
  have hn1 := zdb A1 w.heap.size 1 [(l.length : Int)] #[I64 l.length] ba rfl rfl (by omega) (fun x hx => by rw [List.mem_singleton.1 hx]; exact zdj _ (by omega))
  have e1 : zah [(l.length : Int)] = enc l.length ++ zc1 l 0 := by simp [zah, zc1]
  rw [e1] at hn1
  have HA1 := Lib.hid hA1
  have HE := Lib.hid he
  have HZ := Lib.hid hz
  clear hA1 ba he hz
  go_enter Tryz.func32, Tryz.ntmps32
  go_wp2_with fail
  rw [← HA1.out]
  refine hn1.mono ?_
  rintro e w1 ⟨v0, rfl, ho1⟩
  have t1 : zaJ w (enc l.length ++ zc1 l 0) v0 w1 := ho1.back pa
  clear hn1 ho1
  go_wp2_with fail
  go_loopw [4, 5] (fun o i wx => DpRel w l o i wx) (fun _ i _ => l.length - (intOf i).toNat)
  case atStart => exact ⟨0, Nat.zero_le _, rfl, fun j _ hj => absurd hj (Nat.not_lt_zero _), t1⟩
  case round =>
   clear t1
   obtain ⟨k, hk, rfl, hall, A0, c0, rfl, ho, hq, hA0⟩ := hrel
   have hlu := zkp l k hk hall
   have hel := zaR l.length
   obtain ⟨bs0, hbs0⟩ : ∃ bs0, enc l.length ++ zc1 l k = bs0 := ⟨_, rfl⟩
   have hb0 : bs0.length ≤ 50000000000 := by rw [← hbs0, List.length_append]; omega
   simp only [hbs0] at ho ⊢
   have HB := Lib.hid hbs0
   have HALL := Lib.hid hall
   clear hbs0 hall hlu hel
   by_cases hlt : k < l.length
   ·have hi0 : (k : Int) < (l.length : Int) := by omega
    obtain ⟨b, of, rfl, _, _, hc⟩ := (h.fr hq (fun _ _ h => h)).let_ hlt
    have ix := (HE.out _ (List.getElem_mem hlt)).nw hq
    have iz := HZ.out _ (List.getElem_mem hlt)
    have hsn := zgt l k hlt
    obtain ⟨x, hx⟩ : ∃ x, l[k] = x := ⟨_, rfl⟩
    rw [hx] at hc ix iz hsn
    have hrt := zeQ wr F x ix iz
    obtain ⟨d, hd⟩ : ∃ d, zaE x.x = d := ⟨_, rfl⟩
    rw [hd] at hrt
    have HX := Lib.hid hx
    have HD := Lib.hid hd
    have HSN := Lib.hid hsn
    clear hx hd hsn
    go_wp2_with (refine za5 rfl 50 _ rfl b (of + k * 20) rfl (letL x) _ hc Tryz.underlying50 rfl (by kernel_rfl) ?_)
    refine hrt.mono ?_
    rintro e w3 ⟨rfl, q3⟩
    cases d with
    | false =>
     go_wp2_with fail
     go_ret2
     have e2 : zbU (l.map LetM.x) = none := by
      unfold zbU
      rw [zj1 hlt (by rw [HX.out]; exact HD.out)]
      rfl
     have := HR.out
     rw [e2] at this
     subst this
     exact ⟨rfl, hq.tr q3⟩
    | true =>
     have hc3 := za0.cells hc w3 ⟨⟨w3, q3⟩, rfl⟩
     have hone := zlv w3 F x (ix.nw q3) HD.out
     have hble := zjg HD.out
     obtain ⟨y, hy⟩ : ∃ y, letB x.x = y := ⟨_, rfl⟩
     rw [hy] at hone hble
     have HY := Lib.hid hy
     clear hy hc
     go_wp2_with (refine za5 rfl 50 _ rfl b (of + k * 20) rfl (letL x) _ hc3 Tryz.underlying50 rfl (by kernel_rfl) ?_)
     refine hone.mono ?_
     rintro e w4 ⟨_, rfl, A2, c2, rfl, o2, q2, n2⟩
     have ho' := (ho.fr q3 (fun _ _ h => h)).fr q2 (fun _ _ h => h)
     have Q34 := q3.tr q2
     go_wp2_with (at_builtin; refine zay rfl _ _ _ rfl 1 (.int .u8 0) Tryz.underlying48 zaL rfl (by decide) rfl ho' rfl o2.sl (by simp) (zar _) (by omega) (by unfold maxLen; omega) ?_; intro B' c' w5 hap)
     go_roundw
     case rel =>
      refine ⟨k + 1, hlt, by go_num, fun j hj hjk => ?_, ?_⟩
      ·by_cases hjk2 : j < k
       ·exact HALL.out j hj hjk2
       ·obtain rfl : j = k := by omega
        rw [HX.out]
        exact HD.out
      ·rw [HSN.out, ← List.append_assoc, HB.out, HY.out]
       exact zaJ.app ho hq hA0 Q34 rfl hap
     case measure => simp [intOf]; omega
   ·obtain rfl : k = l.length := by omega
    go_wp2_with fail
    go_ret2
    have e2 : zbU (l.map LetM.x) = some bs0 := by
     unfold zbU
     rw [if_pos (zid fun j hj => HALL.out j hj hj), ← HB.out, zfu l _ (Nat.le_refl _)]
    have := HR.out
    rw [e2] at this
    subst this
    exact ⟨A0, c0, rfl, ho, hq, hA0⟩
 exact hgo _ rfl
open Go Go.RowKit
def AlRel (w : World) (l : List LetM) (i : Value) (wr : World) : Prop := ∃ k : Nat, k ≤ l.length ∧ i = .int .i64 k ∧ (∀ j (h : j < l.length), j < k → zaE l[j].x = true) ∧ Nw w wr
theorem zmC (w : World) (F : Nat → Prop) (A : Option Addr) (c : Nat) (l : List LetM) (h : Sl w F A (zai l)) (he : ∀ x ∈ l, za3 w F x) (hz : ∀ x ∈ l, za8 x) (hl : l.length ≤ 1000000000) :
  Calls Tryz.prog 36 #[.slice A l.length c] w fun e w' => e = .returned (.bool (zbF (l.map LetM.x))) ∧ Nw w w' := by
 have HZ := Lib.hid hz
 have HE := Lib.hid he
 clear hz he
 go_enter Tryz.func36, Tryz.ntmps36
 go_wp2_with fail
 go_loopw [3] (fun i wr => AlRel w l i wr) (fun i _ => l.length - (intOf i).toNat)
 case atStart => exact ⟨0, Nat.zero_le _, rfl, fun j _ hj => absurd hj (Nat.not_lt_zero _), Fr.refl _ _⟩
 case round =>
  obtain ⟨k, hk, rfl, hall, hq⟩ := hrel
  have HALL := Lib.hid hall
  clear hall
  by_cases hlt : k < l.length
  ·have hi0 : (k : Int) < (l.length : Int) := by omega
   have hi1 : decide ((k : Int) < (l.length : Int)) = true := decide_eq_true hi0
   have hi2 : decide (k < l.length) = true := decide_eq_true hlt
   obtain ⟨b, of, rfl, _, _, hc⟩ := (h.fr hq (fun _ _ h => h)).let_ hlt
   have hsz := HZ.out _ (List.getElem_mem hlt)
   have hin := (HE.out _ (List.getElem_mem hlt)).nw hq
   have hmem := List.getElem_mem hlt
   obtain ⟨x, hee⟩ : ∃ x, l[k] = x := ⟨_, rfl⟩
   rw [hee] at hc hsz hin hmem
   have hri := zeQ wr F x hin hsz
   obtain ⟨d, hd⟩ : ∃ d, zaE x.x = d := ⟨_, rfl⟩
   rw [hd] at hri
   have HEE := Lib.hid hee
   have HD := Lib.hid hd
   have HMM := Lib.hid hmem
   clear hee hd hmem
   go_wp2_with (refine za5 rfl 50 _ rfl b (of + k * 20) rfl (letL x) _ hc Tryz.underlying50 rfl (by kernel_rfl) ?_)
   refine hri.mono ?_
   rintro e w4 ⟨rfl, q4⟩
   cases d with
   | false =>
    have hno : zbF (l.map LetM.x) = false := by
     rw [Bool.eq_false_iff]
     intro hh
     have := (zcJ _).1 hh _ (List.mem_map.2 ⟨x, HMM.out, rfl⟩)
     rw [HD.out] at this
     cases this
    have HNO := Lib.hid hno
    clear hno
    go_wp2_with fail
    go_ret
    exact ⟨by rw [HNO.out]; rfl, hq.tr q4⟩
   | true =>
    go_wp2_with fail
    go_roundw
    case rel =>
     refine ⟨k + 1, hlt, by go_num, fun j hj hjk => ?_, hq.tr q4⟩
     by_cases hjk2 : j < k
     ·exact HALL.out j hj hjk2
     ·obtain rfl : j = k := by omega
      rw [HEE.out]
      exact HD.out
    case measure => simp [intOf]; omega
  ·obtain rfl : k = l.length := by omega
   have hyes : zbF (l.map LetM.x) = true := by
    refine (zcJ _).2 fun y hy => ?_
    obtain ⟨x, hx, rfl⟩ := List.mem_map.1 hy
    obtain ⟨j, hj, rfl⟩ := List.mem_iff_getElem.1 hx
    exact HALL.out j hj hj
   have HYES := Lib.hid hyes
   clear hyes
   go_wp2_with fail
   go_ret
   exact ⟨by rw [HYES.out]; rfl, hq⟩
open Go Go.RowKit
section
variable {E : TypeId} {ok : Value → Prop} {w w' : World} {A : Option Addr} {n : Nat} {S : Nat → Prop}
end
theorem zaW.of_eq {x y : EntM} (h : y.x = x.x) (hz : zaW x) : zaW y := by
 have h1 : y.cmd.l = x.cmd.l := congrArg Ent.cmd h
 have h2 : y.cfg.x = x.cfg.x := congrArg Ent.cfg h
 have a1 : y.cfg.v.l = x.cfg.v.l := congrArg Cfg.v h2
 have a2 : y.cfg.o.l = x.cfg.o.l := congrArg Cfg.o h2
 have a3 : y.cfg.l.l = x.cfg.l.l := congrArg Cfg.l h2
 have a4 : y.cfg.w.l = x.cfg.w.l := congrArg Cfg.w h2
 exact ⟨by rw [h1]; exact hz.cmd, ⟨by rw [a1]; exact hz.cfg.v, by rw [a2]; exact hz.cfg.o, by rw [a3]; exact hz.cfg.l, by rw [a4]; exact hz.cfg.w⟩⟩
theorem za8.of_eq {x y : LetM} (h : y.x = x.x) (hz : za8 x) : za8 y := by
 have h1 : y.ents.l.map EntM.x = x.ents.l.map EntM.x := congrArg LetF.ents h
 have h2 : y.base.cfg.x = x.base.cfg.x := congrArg (fun z : LetF => z.base.cfg) h
 have h3 : y.bytes.l = x.bytes.l := congrArg LetF.bytes h
 have a1 : y.base.cfg.v.l = x.base.cfg.v.l := congrArg Cfg.v h2
 have a2 : y.base.cfg.o.l = x.base.cfg.o.l := congrArg Cfg.o h2
 have a3 : y.base.cfg.l.l = x.base.cfg.l.l := congrArg Cfg.l h2
 have a4 : y.base.cfg.w.l = x.base.cfg.w.l := congrArg Cfg.w h2
 have hl : y.ents.l.length = x.ents.l.length := by simpa using congrArg List.length h1
 refine ⟨by rw [hl]; exact hz.ents, fun e he => ?_, ⟨by rw [a1]; exact hz.cfg.v, by rw [a2]; exact hz.cfg.o, by rw [a3]; exact hz.cfg.l, by rw [a4]; exact hz.cfg.w⟩, by rw [h3]; exact hz.bytes⟩
 have hm : e.x ∈ x.ents.l.map EntM.x := by rw [← h1]; exact List.mem_map.2 ⟨e, he, rfl⟩
 obtain ⟨f, hf, hfe⟩ := List.mem_map.1 hm
 exact zaW.of_eq hfe.symm (hz.each f hf)
end Go.Proofs.YtippdjaakcgeoaaGreat
