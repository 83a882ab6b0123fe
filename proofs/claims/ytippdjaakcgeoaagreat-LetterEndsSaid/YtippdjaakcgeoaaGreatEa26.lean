/- Lemmas of the walks: JwC, JwD. (Laid together by shake.py.) -/
import Derived.Deep.RegionHeld3
import Derived.Test.YtippdjaakcgeoaaGreatEa20
import Derived.Test.YtippdjaakcgeoaaGreatEa25
set_option linter.unusedVariables false
set_option linter.unusedSimpArgs false
set_option maxRecDepth 100000
set_option maxHeartbeats 16000000
namespace Go.Proofs.YtippdjaakcgeoaaGreat
open Go Go.RowKit
theorem WrTo.fr {w w' : World} {F : Nat → Prop} {g : Nat} {s : Wr} (h : WrTo w F g s w') : Fr F w w' := by
 obtain ⟨_, _, h, _⟩ := h
 exact h
theorem zjg {x : LetF} (h : zaE x = true) : (letB x).length ≤ 4200000 := by
 have hs := (zbw x).1 h
 have h1 := zbZ (zcd x)
 have h2 := zeY x.ents hs.ents.2
 have h3 := hs.ents.1
 have h4 := zh4 hs.base
 have h5 := zbZ [x.size, x.at_, x.tag]
 have h6 := zdo x.bytes
 have h7 := hs.bytes
 have h8 := zaR x.ents.length
 have h9 : (zcd x).length = 8 := rfl
 simp only [List.length_cons, List.length_nil] at h5
 unfold letB zcl
 simp only [List.length_append, List.length_cons, List.length_nil]
 omega
theorem ziP (w : World) (F F2 : Nat → Prop) (g : Nat) (bs : List UInt8) (h : IsWr w F g (W8 bs)) (x : LetM) (hx : za3 w F2 x) (hap : zbN w F2 F) (hok : zaE x.x = true) (hsz : bs.length ≤ 300000000000) :
  Calls Tryz.prog 70 #[.agg #[.pointer (some ⟨g, 0, none⟩)], .agg (letA x)] w fun e w' => e = .returned (.tuple #[]) ∧ WrTo w F g (W8 (bs ++ letB x.x)) w' := by
 have hsm := (zbw x.x).1 hok
 obtain ⟨hr8, hr1, hr3⟩ : (∀ n ∈ [x.kind, x.group, x.src, x.dst, x.term, x.index, x.logt, x.commit], zcf n) ∧ (∀ n ∈ [(x.ents.l.length : Int)], zcf n) ∧ (∀ n ∈ [x.size, x.at_, x.tag], zcf n) := by
  have hh := hsm.head
  have hn := hsm.nums
  have ht := hsm.tag
  have hh : ((1 ≤ x.kind ∧ x.kind ≤ 8) ∧ (0 ≤ x.group ∧ x.group ≤ 4)) ∧ (1 ≤ x.src ∧ x.src ≤ 5) ∧ (1 ≤ x.dst ∧ x.dst ≤ 5) := hh
  have hn : ((0 ≤ x.term ∧ x.term ≤ 1073741824) ∧ (0 ≤ x.index ∧ x.index ≤ 1073741824)) ∧ ((0 ≤ x.logt ∧ x.logt ≤ 1073741824) ∧ (0 ≤ x.commit ∧ x.commit ≤ 1073741824)) ∧ (0 ≤ x.size ∧ x.size ≤ 1073741824) ∧ (0 ≤ x.at_ ∧ x.at_ ≤ 1073741824) := hn
  have ht : 0 ≤ x.tag ∧ x.tag ≤ 4611686018427387903 := ht
  refine ⟨fun n hm => ?_, fun n hm => ?_, fun n hm => ?_⟩
  ·simp only [List.mem_cons, List.not_mem_nil, or_false] at hm
   rcases hm with rfl | rfl | rfl | rfl | rfl | rfl | rfl | rfl <;> exact zbI _ (by omega) (by omega)
  ·rw [List.mem_singleton.1 hm]
   exact zdj _ (by have := hsm.ents.1; rw [List.length_map] at this; omega)
  ·simp only [List.mem_cons, List.not_mem_nil, or_false] at hm
   rcases hm with rfl | rfl | rfl
   ·exact zbI _ (by omega) (by omega)
   ·exact zbI _ (by omega) (by omega)
   ·exact ⟨ht.1, by unfold topN; omega⟩
 have hel : x.ents.l.length ≤ 30 := by have := hsm.ents.1; rwa [List.length_map] at this
 have hbl : x.bytes.l.length ≤ 131072 := hsm.bytes
 have hee : ∀ e ∈ x.ents.l, zbm e.x = true := fun e he => hsm.ents.2 _ (List.mem_map.2 ⟨e, he, rfl⟩)
 have hbs : zbi x.base.x = true := hsm.base
 have hcs : zaY x.base.cfg := zeW (zef hbs).2.2
 have hkd : 0 ≤ x.kind ∧ x.kind ≤ 255 := hx.kind
 have hcv : IntKind.i64.wrap x.kind = x.kind := IntWalk.i64_in _ (by omega)
 have hcap := hx.bytes.cap
 obtain ⟨S, hS⟩ : ∃ X, X = w.heap.size := ⟨_, rfl⟩
 obtain ⟨X, hX⟩ : ∃ Y, Y = w.heap.size + 1 := ⟨_, rfl⟩
 obtain ⟨W0, hW0⟩ : ∃ W, W = w.alloc (.cells #[.pointer (some ⟨g, 0, none⟩)] 124) := ⟨_, rfl⟩
 have p0 : Nw w W0 := by rw [hW0]; exact (Fr.refl (fun _ => False) _).alloc _
 have s0 : Blk W0 S 124 #[.pointer (some ⟨g, 0, none⟩)] := by rw [hW0, hS]; exact Blk.new _ _ _
 have hz0 : W0.heap.size = X := by rw [hW0, hX]; simp
 obtain ⟨W1, hW1⟩ : ∃ W, W = W0.alloc (.cells (letA x) 50) := ⟨_, rfl⟩
 have p1 : Nw W0 W1 := by rw [hW1]; exact (Fr.refl (fun _ => False) _).alloc _
 have x1 : Blk W1 X 50 (letA x) := by rw [hW1, ← hz0]; exact Blk.new _ _ _
 have s1 := s0.fr p1 (fun h => h)
 have Q1 : Nw w W1 := p0.tr p1
 have h1 := h.fr Q1 (fun _ _ h => h)
 have hSF : ¬ F S := fun hF => by have := h.bound _ hF; omega
 have hXF : ¬ F X := fun hF => by have := h.bound _ hF; omega
 have cS : ∀ w1, Fr F W1 w1 → w1.cell? ⟨S, 0, none⟩ = some (.pointer (some ⟨g, 0, none⟩)) ∧ w1.cell? ⟨X, 0, none⟩ = some (U8V x.kind) ∧ w1.cell? ⟨X, 1, none⟩ = some (I64 x.group) ∧ w1.cell? ⟨X, 2, none⟩ = some (I64 x.src) ∧ w1.cell? ⟨X, 3, none⟩ = some (I64 x.dst) ∧ w1.cell? ⟨X, 4, none⟩ = some (I64 x.term) ∧ w1.cell? ⟨X, 5, none⟩ = some (I64 x.index) ∧ w1.cell? ⟨X, 6, none⟩ = some (I64 x.logt) ∧ w1.cell? ⟨X, 7, none⟩ = some (I64 x.commit) ∧ w1.cell? ⟨X, 8, none⟩ = some (.bool x.ok) ∧ w1.cell? ⟨X, 9, none⟩ = some (.slice x.ents.a x.ents.l.length x.ents.c) := fun w1 f => by
  have a := x1.fr f hXF
  have b := s1.fr f hSF
  exact ⟨by simpa using b.cell 0, by simpa using a.cell 0, by simpa using a.cell 1, by simpa using a.cell 2, by simpa using a.cell 3, by simpa using a.cell 4, by simpa using a.cell 5, by simpa using a.cell 6, by simpa using a.cell 7, by simpa using a.cell 8, by simpa using a.cell 9⟩
 have cS2 : ∀ w1, Fr F W1 w1 → w1.cell? ⟨S, 0, none⟩ = some (.pointer (some ⟨g, 0, none⟩)) ∧ w1.cell? ⟨X, 9, none⟩ = some (.slice x.ents.a x.ents.l.length x.ents.c) ∧ w1.cell? ⟨X, 10, none⟩ = some (I64 x.base.index) ∧ w1.cell? ⟨X, 11, none⟩ = some (I64 x.base.term) ∧ w1.cell? ⟨X, 12, none⟩ = some (.slice x.base.cfg.v.a x.base.cfg.v.l.length x.base.cfg.v.c) ∧ w1.cell? ⟨X, 13, none⟩ = some (.slice x.base.cfg.o.a x.base.cfg.o.l.length x.base.cfg.o.c) ∧ w1.cell? ⟨X, 14, none⟩ = some (.slice x.base.cfg.l.a x.base.cfg.l.l.length x.base.cfg.l.c) ∧ w1.cell? ⟨X, 15, none⟩ = some (.slice x.base.cfg.w.a x.base.cfg.w.l.length x.base.cfg.w.c) := fun w1 f => by
  have a := x1.fr f hXF
  have b := s1.fr f hSF
  exact ⟨by simpa using b.cell 0, by simpa using a.cell 9, by simpa using a.cell 10, by simpa using a.cell 11, by simpa using a.cell 12, by simpa using a.cell 13, by simpa using a.cell 14, by simpa using a.cell 15⟩
 have cS3 : ∀ w1, Fr F W1 w1 → w1.cell? ⟨S, 0, none⟩ = some (.pointer (some ⟨g, 0, none⟩)) ∧ w1.cell? ⟨X, 16, none⟩ = some (I64 x.size) ∧ w1.cell? ⟨X, 17, none⟩ = some (I64 x.at_) ∧ w1.cell? ⟨X, 18, none⟩ = some (I64 x.tag) ∧ w1.cell? ⟨X, 19, none⟩ = some (.slice x.bytes.a x.bytes.l.length x.bytes.c) := fun w1 f => by
  have a := x1.fr f hXF
  have b := s1.fr f hSF
  exact ⟨by simpa using b.cell 0, by simpa using a.cell 16, by simpa using a.cell 17, by simpa using a.cell 18, by simpa using a.cell 19⟩
 have hap1 : ∀ wz F', Fr F W1 wz → (∀ k, F' k → F k ∨ W1.heap.size ≤ k) → zbN wz F2 F' := fun wz F' f n => (hap.fr Q1 (fun _ h => .inl h)).fr f n
 have hno := hap.no
 have hx1 := hx.nw Q1
 have hst := WrC.start (cl := [⟨19, 20, 3, #[I64 x.kind, I64 x.group, I64 x.src, I64 x.dst, I64 x.term, I64 x.index, I64 x.logt, I64 x.commit], zah [x.kind, x.group, x.src, x.dst, x.term, x.index, x.logt, x.commit]⟩, ⟨23, 24, 4, #[.bool x.ok], zcl x.ok⟩, ⟨28, 29, 3, #[I64 x.ents.l.length], zah [(x.ents.l.length : Int)]⟩]) h1 (fun _ => (0, none))
 have M1 := zbZ [x.kind, x.group, x.src, x.dst, x.term, x.index, x.logt, x.commit]
 have M2 := zbZ [(x.ents.l.length : Int)]
 have M3 := zbZ [x.size, x.at_, x.tag]
 have M4 := zdo x.bytes.l
 have M5 := zeY (x.ents.l.map EntM.x) hsm.ents.2
 have M6 := zh4 hbs
 simp only [List.length_cons, List.length_nil, List.length_map] at M1 M2 M3 M5
 obtain ⟨bs1, hbs1⟩ : ∃ b, b = bs ++ zbp [⟨19, 20, 3, #[I64 x.kind, I64 x.group, I64 x.src, I64 x.dst, I64 x.term, I64 x.index, I64 x.logt, I64 x.commit], zah [x.kind, x.group, x.src, x.dst, x.term, x.index, x.logt, x.commit]⟩, ⟨23, 24, 4, #[.bool x.ok], zcl x.ok⟩, ⟨28, 29, 3, #[I64 x.ents.l.length], zah [(x.ents.l.length : Int)]⟩] := ⟨_, rfl⟩
 have hb1 : bs1.length ≤ 300000001000 := by rw [hbs1]; simp [zbp, zcl]; omega
 have c4 : ∀ w2 F', Fr F W1 w2 → (∀ k, F' k → F k ∨ W1.heap.size ≤ k) → IsWr w2 F' g (W8 bs1) → Calls Tryz.prog 144 #[.pointer (some ⟨g, 0, none⟩), .slice x.ents.a x.ents.l.length x.ents.c] w2 fun e w' => e = .returned (.pointer (some ⟨g, 0, none⟩)) ∧ WrTo W1 F g (W8 (bs1 ++ zaX (x.ents.l.map EntM.x))) w' := by
  intro w2 F' f n hw
  refine (zjJ w2 F' F2 g bs1 hw x.ents.a x.ents.c x.ents.l ((hx1.ents.fr f hno).sl) (fun e he => (hx1.each e he).fr f hno) (hap1 w2 F' f n) hee hel (by omega)).mono ?_
  rintro e w' ⟨rfl, t⟩
  exact ⟨rfl, WrTo.after f n t⟩
 obtain ⟨bs2, hbs2⟩ : ∃ b, b = bs1 ++ zaX (x.ents.l.map EntM.x) := ⟨_, rfl⟩
 have hb2 : bs2.length ≤ 300005001000 := by rw [hbs2, List.length_append]; omega
 rw [← hbs2] at c4
 have c5 : ∀ w2, WrTo W1 F g (W8 bs2) w2 → Calls Tryz.prog 143 #[.pointer (some ⟨g, 0, none⟩), .agg #[I64 x.base.index, I64 x.base.term, .slice x.base.cfg.v.a x.base.cfg.v.l.length x.base.cfg.v.c, .slice x.base.cfg.o.a x.base.cfg.o.l.length x.base.cfg.o.c, .slice x.base.cfg.l.a x.base.cfg.l.l.length x.base.cfg.l.c, .slice x.base.cfg.w.a x.base.cfg.w.l.length x.base.cfg.w.c]] w2 fun e w' => e = .returned (.pointer (some ⟨g, 0, none⟩)) ∧ WrTo W1 F g (W8 (bs2 ++ basB x.base.x)) w' := by
  rintro w2 ⟨F', hw, f, n⟩
  refine (zh1 w2 F' F2 g bs2 hw x.base (hx1.cfg.fr f hno) hcs (hap1 w2 F' f n) hbs (by omega)).mono ?_
  rintro e w' ⟨rfl, t⟩
  exact ⟨rfl, WrTo.after f n t⟩
 obtain ⟨bs3, hbs3⟩ : ∃ b, b = bs2 ++ basB x.base.x := ⟨_, rfl⟩
 have hb3 : bs3.length ≤ 300005002000 := by rw [hbs3, List.length_append]; omega
 rw [← hbs3] at c5
 have hend : bs3 ++ zbp [⟨8, 9, 3, #[I64 x.size, I64 x.at_, I64 x.tag], zah [x.size, x.at_, x.tag]⟩, ⟨12, 13, 48, #[.slice x.bytes.a x.bytes.l.length x.bytes.c], rowB x.bytes.l⟩] = bs ++ letB x.x := by
  rw [hbs3, hbs2, hbs1]
  simp [zbp, letB, zcd, zah]
 have HC4 := Lib.hid c4
 have HC5 := Lib.hid c5
 have HS1 := Lib.hid cS
 have HS2 := Lib.hid cS2
 have HS3 := Lib.hid cS3
 have HB := Lib.hid (And.intro hbs1 (And.intro hbs2 (And.intro hbs3 hend)))
 have HS := Lib.hid hS
 have HX := Lib.hid hX
 have HZ0 := Lib.hid hz0
 have HW0 := Lib.hid hW0
 have HW1 := Lib.hid hW1
 clear hbs1 hbs2 hbs3 hend c4 c5 cS cS2 cS3 hS hX hz0 hW0 hW1 s0 h1
 go_enter Tryz.func70, Tryz.ntmps70
 go_upto_region 1 with (fail)
 rw [← HX.out, ← HS.out, ← HW0.out, ← HW1.out]
 refine zcy _ _ (by kernel_rfl) (by kernel_rfl) hst ?_
 clear hst
 apply za6
 focus
  intro B L wz hL hD hC
  refine .inl ⟨by rfl, ?_⟩
  obtain ⟨yg, y0, y1, y2, y3, y4, y5, y6, y7, y8, y9⟩ := HS1.out wz hC.fr
  unfold za2
  go_simp
  exact ⟨rfl, hC.keep _ (by rfl)⟩
 simp only [Act.put, sA9, sB9, sC9]
 apply za6
 focus
  intro B L wz hL hD hC
  refine .inl ⟨by rfl, ?_⟩
  obtain ⟨yg, y0, y1, y2, y3, y4, y5, y6, y7, y8, y9⟩ := HS1.out wz hC.fr
  unfold za2
  go_simp
  exact ⟨rfl, hC.keep _ (by rfl)⟩
 simp only [Act.put, sA9, sB9, sC9]
 apply za6
 focus
  intro B L wz hL hD hC
  refine .inl ⟨by rfl, ?_⟩
  obtain ⟨yg, y0, y1, y2, y3, y4, y5, y6, y7, y8, y9⟩ := HS1.out wz hC.fr
  unfold za2
  go_simp
  exact ⟨rfl, hC.keep _ (by rfl)⟩
 simp only [Act.put, sA9, sB9, sC9]
 apply za6
 focus
  intro B L wz hL hD hC
  refine .inl ⟨by rfl, ?_⟩
  obtain ⟨yg, y0, y1, y2, y3, y4, y5, y6, y7, y8, y9⟩ := HS1.out wz hC.fr
  unfold za2
  go_simp
  exact ⟨rfl, hC.keep _ (by rfl)⟩
 simp only [Act.put, sA9, sB9, sC9]
 apply za6
 focus
  intro B L wz hL hD hC
  refine .inl ⟨by rfl, ?_⟩
  obtain ⟨yg, y0, y1, y2, y3, y4, y5, y6, y7, y8, y9⟩ := HS1.out wz hC.fr
  unfold za2
  go_simp
  exact ⟨rfl, hC.keep _ (by rfl)⟩
 simp only [Act.put, sA9, sB9, sC9]
 apply za6
 focus
  intro B L wz hL hD hC
  refine .inl ⟨by rfl, ?_⟩
  obtain ⟨yg, y0, y1, y2, y3, y4, y5, y6, y7, y8, y9⟩ := HS1.out wz hC.fr
  unfold za2
  go_simp
  exact ⟨rfl, hC.keep _ (by rfl)⟩
 simp only [Act.put, sA9, sB9, sC9]
 apply za6
 focus
  intro B L wz hL hD hC
  refine .inl ⟨by rfl, ?_⟩
  obtain ⟨yg, y0, y1, y2, y3, y4, y5, y6, y7, y8, y9⟩ := HS1.out wz hC.fr
  unfold za2
  go_simp
  exact ⟨rfl, hC.keep _ (by rfl)⟩
 simp only [Act.put, sA9, sB9, sC9]
 apply za6
 focus
  intro B L wz hL hD hC
  refine .inl ⟨by rfl, ?_⟩
  obtain ⟨yg, y0, y1, y2, y3, y4, y5, y6, y7, y8, y9⟩ := HS1.out wz hC.fr
  unfold za2
  go_simp
  exact ⟨rfl, hC.keep _ (by rfl)⟩
 simp only [Act.put, sA9, sB9, sC9]
 apply za6
 focus
  intro B L wz hL hD hC
  refine .inl ⟨by rfl, ?_⟩
  obtain ⟨yg, y0, y1, y2, y3, y4, y5, y6, y7, y8, y9⟩ := HS1.out wz hC.fr
  unfold za2
  go_simp
  exact ⟨rfl, hC.keep _ (by rfl)⟩
 simp only [Act.put, sA9, sB9, sC9]
 apply za6
 focus
  intro B L wz hL hD hC
  refine .inl ⟨by rfl, ?_⟩
  obtain ⟨yg, y0, y1, y2, y3, y4, y5, y6, y7, y8, y9⟩ := HS1.out wz hC.fr
  unfold za2
  go_simp
  exact ⟨rfl, hC.keep _ (by rfl)⟩
 simp only [Act.put, sA9, sB9, sC9]
 apply za6
 focus
  intro B L wz hL hD hC
  refine .inl ⟨by rfl, ?_⟩
  obtain ⟨yg, y0, y1, y2, y3, y4, y5, y6, y7, y8, y9⟩ := HS1.out wz hC.fr
  unfold za2
  go_simp
  exact ⟨rfl, hC.keep _ (by rfl)⟩
 simp only [Act.put, sA9, sB9, sC9]
 apply za6
 focus
  intro B L wz hL hD hC
  refine .inl ⟨by rfl, ?_⟩
  obtain ⟨yg, y0, y1, y2, y3, y4, y5, y6, y7, y8, y9⟩ := HS1.out wz hC.fr
  unfold za2
  go_simp
  exact ⟨rfl, hC.keep _ (by rfl)⟩
 simp only [Act.put, sA9, sB9, sC9]
 apply za6
 focus
  intro B L wz hL hD hC
  refine .inl ⟨by rfl, ?_⟩
  obtain ⟨yg, y0, y1, y2, y3, y4, y5, y6, y7, y8, y9⟩ := HS1.out wz hC.fr
  unfold za2
  go_simp
  exact ⟨rfl, hC.keep _ (by rfl)⟩
 simp only [Act.put, sA9, sB9, sC9]
 apply za6
 focus
  intro B L wz hL hD hC
  refine .inl ⟨by rfl, ?_⟩
  obtain ⟨yg, y0, y1, y2, y3, y4, y5, y6, y7, y8, y9⟩ := HS1.out wz hC.fr
  unfold za2
  go_simp
  exact ⟨rfl, hC.keep _ (by rfl)⟩
 simp only [Act.put, sA9, sB9, sC9]
 apply za6
 focus
  intro B L wz hL hD hC
  refine .inl ⟨by rfl, ?_⟩
  obtain ⟨yg, y0, y1, y2, y3, y4, y5, y6, y7, y8, y9⟩ := HS1.out wz hC.fr
  unfold za2
  go_simp
  exact ⟨rfl, hC.keep _ (by rfl)⟩
 simp only [Act.put, sA9, sB9, sC9]
 apply za6
 focus
  intro B L wz hL hD hC
  refine .inl ⟨by rfl, ?_⟩
  obtain ⟨yg, y0, y1, y2, y3, y4, y5, y6, y7, y8, y9⟩ := HS1.out wz hC.fr
  unfold za2
  go_simp
  exact ⟨rfl, hC.keep _ (by rfl)⟩
 simp only [Act.put, sA9, sB9, sC9]
 apply za6
 focus
  intro B L wz hL hD hC
  refine .inl ⟨by rfl, ?_⟩
  obtain ⟨yg, y0, y1, y2, y3, y4, y5, y6, y7, y8, y9⟩ := HS1.out wz hC.fr
  unfold za2
  go_simp
  exact ⟨rfl, hC.keep _ (by rfl)⟩
 simp only [Act.put, sA9, sB9, sC9]
 apply za6
 focus
  intro B L wz hL hD hC
  refine .inl ⟨by rfl, ?_⟩
  obtain ⟨yg, y0, y1, y2, y3, y4, y5, y6, y7, y8, y9⟩ := HS1.out wz hC.fr
  unfold za2
  go_simp
  exact ⟨rfl, hC.keep _ (by rfl)⟩
 simp only [Act.put, sA9, sB9, sC9]
 apply za6
 focus
  intro B L wz hL hD hC
  refine .inl ⟨by rfl, ?_⟩
  obtain ⟨yg, y0, y1, y2, y3, y4, y5, y6, y7, y8, y9⟩ := HS1.out wz hC.fr
  unfold za2
  go_simp
  exact ⟨rfl, hC.keep _ (by rfl)⟩
 simp only [Act.put, sA9, sB9, sC9]
 refine zaT (fun b => .slice (some ⟨b.1, 0, none⟩) 8 8) ?_ ?_
 focus
  intro B L wz hL hD hC
  refine .inl ⟨by rfl, ?_⟩
  unfold zc2
  go_simp
  exact ⟨(wz.heap.size, none), rfl, hC.make 19 3 #[I64 x.kind, I64 x.group, I64 x.src, I64 x.dst, I64 x.term, I64 x.index, I64 x.logt, I64 x.commit] (by intro d hd hk; simp only [List.mem_cons, List.not_mem_nil, or_false] at hd; rcases hd with rfl | rfl | rfl <;> first | exact ⟨rfl, rfl⟩ | exact absurd hk (by simp)) (by rfl)⟩
 simp only [Act.put, sA9, sB9, sC9]
 apply za6
 focus
  intro B L wz hL hD hC
  obtain ⟨F', h1, h2, h3, h4, h5⟩ := hC.call 0 _ rfl hL (hD 19 (by kernel_rfl)) (.inl rfl) (by rfl) (by rfl)
  have hfr := hC.fr
  refine .inl ⟨by rfl, ?_⟩
  unfold za2
  go_simp
  refine (zdF wz F' g _ h1 (B 19).1 8 [x.kind, x.group, x.src, x.dst, x.term, x.index, x.logt, x.commit] #[I64 x.kind, I64 x.group, I64 x.src, I64 x.dst, I64 x.term, I64 x.index, I64 x.logt, I64 x.commit] h2 h3 rfl rfl (by omega) hr8 (by simp only [zbp, List.take_zero, List.map_nil, List.flatten_nil, List.append_nil]; omega)).mono ?_
  rintro e w9 ⟨rfl, ht⟩
  exact ⟨rfl, h5 _ (ht)⟩
 simp only [Act.put, sA9, sB9, sC9]
 apply za6
 focus
  intro B L wz hL hD hC
  refine .inl ⟨by rfl, ?_⟩
  obtain ⟨yg, y0, y1, y2, y3, y4, y5, y6, y7, y8, y9⟩ := HS1.out wz hC.fr
  unfold za2
  go_simp
  exact ⟨rfl, hC.keep _ (by rfl)⟩
 simp only [Act.put, sA9, sB9, sC9]
 apply za6
 focus
  intro B L wz hL hD hC
  refine .inl ⟨by rfl, ?_⟩
  obtain ⟨yg, y0, y1, y2, y3, y4, y5, y6, y7, y8, y9⟩ := HS1.out wz hC.fr
  unfold za2
  go_simp
  exact ⟨rfl, hC.keep _ (by rfl)⟩
 simp only [Act.put, sA9, sB9, sC9]
 refine zaT (fun b => .slice (some ⟨b.1, 0, none⟩) 1 1) ?_ ?_
 focus
  intro B L wz hL hD hC
  refine .inl ⟨by rfl, ?_⟩
  unfold zc2
  go_simp
  exact ⟨(wz.heap.size, none), rfl, hC.make 23 4 #[.bool x.ok] (by intro d hd hk; simp only [List.mem_cons, List.not_mem_nil, or_false] at hd; rcases hd with rfl | rfl | rfl <;> first | exact ⟨rfl, rfl⟩ | exact absurd hk (by simp)) (by rfl)⟩
 simp only [Act.put, sA9, sB9, sC9]
 apply za6
 focus
  intro B L wz hL hD hC
  obtain ⟨F', h1, h2, h3, h4, h5⟩ := hC.call 1 _ rfl hL (hD 23 (by kernel_rfl)) (.inr ⟨0, _, rfl, rfl, hD 20 (by kernel_rfl)⟩) (by rfl) (by rfl)
  have hfr := hC.fr
  refine .inl ⟨by rfl, ?_⟩
  unfold za2
  go_simp
  refine (zlG wz F' g _ h1 (B 23).1 1 [x.ok] #[.bool x.ok] h2 h3 rfl rfl (by omega) (by simp [zbp]; omega)).mono ?_
  rintro e w9 ⟨rfl, ht⟩
  exact ⟨rfl, h5 _ (by simpa using ht)⟩
 simp only [Act.put, sA9, sB9, sC9]
 apply za6
 focus
  intro B L wz hL hD hC
  refine .inl ⟨by rfl, ?_⟩
  obtain ⟨yg, y0, y1, y2, y3, y4, y5, y6, y7, y8, y9⟩ := HS1.out wz hC.fr
  unfold za2
  go_simp
  exact ⟨rfl, hC.keep _ (by rfl)⟩
 simp only [Act.put, sA9, sB9, sC9]
 apply za6
 focus
  intro B L wz hL hD hC
  refine .inl ⟨by rfl, ?_⟩
  obtain ⟨yg, y0, y1, y2, y3, y4, y5, y6, y7, y8, y9⟩ := HS1.out wz hC.fr
  unfold za2
  go_simp
  exact ⟨rfl, hC.keep _ (by rfl)⟩
 simp only [Act.put, sA9, sB9, sC9]
 apply za6
 focus
  intro B L wz hL hD hC
  refine .inl ⟨by rfl, ?_⟩
  obtain ⟨yg, y0, y1, y2, y3, y4, y5, y6, y7, y8, y9⟩ := HS1.out wz hC.fr
  unfold za2
  go_simp
  exact ⟨rfl, hC.keep _ (by rfl)⟩
 simp only [Act.put, sA9, sB9, sC9]
 refine zaT (fun b => .slice (some ⟨b.1, 0, none⟩) 1 1) ?_ ?_
 focus
  intro B L wz hL hD hC
  refine .inl ⟨by rfl, ?_⟩
  unfold zc2
  go_simp
  exact ⟨(wz.heap.size, none), rfl, hC.make 28 3 #[I64 x.ents.l.length] (by intro d hd hk; simp only [List.mem_cons, List.not_mem_nil, or_false] at hd; rcases hd with rfl | rfl | rfl <;> first | exact ⟨rfl, rfl⟩ | exact absurd hk (by simp)) (by rfl)⟩
 simp only [Act.put, sA9, sB9, sC9]
 apply za6
 focus
  intro B L wz hL hD hC
  obtain ⟨F', h1, h2, h3, h4, h5⟩ := hC.call 2 _ rfl hL (hD 28 (by kernel_rfl)) (.inr ⟨1, _, rfl, rfl, hD 24 (by kernel_rfl)⟩) (by rfl) (by rfl)
  have hfr := hC.fr
  refine .inl ⟨by rfl, ?_⟩
  unfold za2
  go_simp
  refine (zdF wz F' g _ h1 (B 28).1 1 [(x.ents.l.length : Int)] #[I64 x.ents.l.length] h2 h3 rfl rfl (by omega) hr1 (by simp [zbp, zcl]; omega)).mono ?_
  rintro e w9 ⟨rfl, ht⟩
  exact ⟨rfl, h5 _ (ht)⟩
 simp only [Act.put, sA9, sB9, sC9]
 refine zdz fun B w11 hC5 => ?_
 obtain ⟨FD, hD, fD, nD⟩ := hC5.done (by intro d hd; simp only [List.mem_cons, List.not_mem_nil, or_false] at hd; rcases hd with rfl | rfl | rfl <;> rfl)
 rw [← HB.out.1] at hD
 clear hC5
 go_upto_region 2 with (fail)
 have Qd : Fr F W1 w11.drew := (fD.mono fun k hk => .inl hk).drew
 have hD1 : IsWr w11.drew FD g (W8 bs1) := hD.fr ((Fr.refl (fun _ => False) w11).drew) (fun _ _ h => h)
 have s11 := HS2.out _ Qd
 first | (go_region_held3 (fun w' => w'.cell? ⟨S, 0, none⟩ = some (.pointer (some ⟨g, 0, none⟩)) ∧ w'.cell? ⟨X, 9, none⟩ = some (.slice x.ents.a x.ents.l.length x.ents.c) ∧ w'.cell? ⟨X, 10, none⟩ = some (I64 x.base.index) ∧ w'.cell? ⟨X, 11, none⟩ = some (I64 x.base.term) ∧ w'.cell? ⟨X, 12, none⟩ = some (.slice x.base.cfg.v.a x.base.cfg.v.l.length x.base.cfg.v.c) ∧ w'.cell? ⟨X, 13, none⟩ = some (.slice x.base.cfg.o.a x.base.cfg.o.l.length x.base.cfg.o.c) ∧ w'.cell? ⟨X, 14, none⟩ = some (.slice x.base.cfg.l.a x.base.cfg.l.l.length x.base.cfg.l.c) ∧ w'.cell? ⟨X, 15, none⟩ = some (.slice x.base.cfg.w.a x.base.cfg.w.l.length x.base.cfg.w.c)) (first | (with_reducible exact s11) | (with_reducible exact s12) | (with_reducible exact s13) | fail)
  ((first | (go_at_call 143; refine (HC5.out w12 t12).mono ?_; rintro e w13 ⟨rfl, t13⟩; have s13 := HS2.out w13 t13.fr) | (go_at_call 144; refine (HC4.out _ FD Qd nD hD1).mono ?_; rintro e w12 ⟨rfl, t12⟩; have s12 := HS2.out w12 t12.fr)))) | fail
 obtain ⟨FE, hE, fE, nE⟩ := t13
 clear s11 s12 s13 t12 Qd hD1 hD fD nD
 have hst := WrC.start (cl := [⟨8, 9, 3, #[I64 x.size, I64 x.at_, I64 x.tag], zah [x.size, x.at_, x.tag]⟩, ⟨12, 13, 48, #[.slice x.bytes.a x.bytes.l.length x.bytes.c], rowB x.bytes.l⟩]) hE (fun _ => (0, none))
 have hF3 : ∀ wz, Fr FE w13 wz → Fr F W1 wz := fun wz f => fE.trans f nE
 have hby : ∀ wz, Fr FE w13 wz → Sl wz F2 x.bytes.a (x.bytes.l.map B8) := fun wz f => (hx1.bytes.fr (hF3 wz f) hno).sl
 have hap3 : ∀ wz F', Fr FE w13 wz → (∀ k, F' k → FE k ∨ w13.heap.size ≤ k) → zbN wz F2 F' := fun wz F' f n => hap1 wz F' (hF3 wz f) (fun k hk => (n k hk).elim (nE k) (fun h => .inr (Nat.le_trans fE.size h)))
 go_upto_region 3 with (fail)
 refine zcy _ _ (by kernel_rfl) (by kernel_rfl) hst ?_
 clear hst
 apply za6
 focus
  intro B L wz hL hD hC
  refine .inl ⟨by rfl, ?_⟩
  obtain ⟨yg, y16, y17, y18, y19⟩ := HS3.out wz (hF3 wz hC.fr)
  unfold za2
  go_simp
  exact ⟨rfl, hC.keep _ (by rfl)⟩
 simp only [Act.put, sA9, sB9, sC9]
 apply za6
 focus
  intro B L wz hL hD hC
  refine .inl ⟨by rfl, ?_⟩
  obtain ⟨yg, y16, y17, y18, y19⟩ := HS3.out wz (hF3 wz hC.fr)
  unfold za2
  go_simp
  exact ⟨rfl, hC.keep _ (by rfl)⟩
 simp only [Act.put, sA9, sB9, sC9]
 apply za6
 focus
  intro B L wz hL hD hC
  refine .inl ⟨by rfl, ?_⟩
  obtain ⟨yg, y16, y17, y18, y19⟩ := HS3.out wz (hF3 wz hC.fr)
  unfold za2
  go_simp
  exact ⟨rfl, hC.keep _ (by rfl)⟩
 simp only [Act.put, sA9, sB9, sC9]
 apply za6
 focus
  intro B L wz hL hD hC
  refine .inl ⟨by rfl, ?_⟩
  obtain ⟨yg, y16, y17, y18, y19⟩ := HS3.out wz (hF3 wz hC.fr)
  unfold za2
  go_simp
  exact ⟨rfl, hC.keep _ (by rfl)⟩
 simp only [Act.put, sA9, sB9, sC9]
 apply za6
 focus
  intro B L wz hL hD hC
  refine .inl ⟨by rfl, ?_⟩
  obtain ⟨yg, y16, y17, y18, y19⟩ := HS3.out wz (hF3 wz hC.fr)
  unfold za2
  go_simp
  exact ⟨rfl, hC.keep _ (by rfl)⟩
 simp only [Act.put, sA9, sB9, sC9]
 apply za6
 focus
  intro B L wz hL hD hC
  refine .inl ⟨by rfl, ?_⟩
  obtain ⟨yg, y16, y17, y18, y19⟩ := HS3.out wz (hF3 wz hC.fr)
  unfold za2
  go_simp
  exact ⟨rfl, hC.keep _ (by rfl)⟩
 simp only [Act.put, sA9, sB9, sC9]
 apply za6
 focus
  intro B L wz hL hD hC
  refine .inl ⟨by rfl, ?_⟩
  obtain ⟨yg, y16, y17, y18, y19⟩ := HS3.out wz (hF3 wz hC.fr)
  unfold za2
  go_simp
  exact ⟨rfl, hC.keep _ (by rfl)⟩
 simp only [Act.put, sA9, sB9, sC9]
 apply za6
 focus
  intro B L wz hL hD hC
  refine .inl ⟨by rfl, ?_⟩
  obtain ⟨yg, y16, y17, y18, y19⟩ := HS3.out wz (hF3 wz hC.fr)
  unfold za2
  go_simp
  exact ⟨rfl, hC.keep _ (by rfl)⟩
 simp only [Act.put, sA9, sB9, sC9]
 refine zaT (fun b => .slice (some ⟨b.1, 0, none⟩) 3 3) ?_ ?_
 focus
  intro B L wz hL hD hC
  refine .inl ⟨by rfl, ?_⟩
  unfold zc2
  go_simp
  exact ⟨(wz.heap.size, none), rfl, hC.make 8 3 #[I64 x.size, I64 x.at_, I64 x.tag] (by intro d hd hk; simp only [List.mem_cons, List.not_mem_nil, or_false] at hd; rcases hd with rfl | rfl <;> first | exact ⟨rfl, rfl⟩ | exact absurd hk (by simp)) (by rfl)⟩
 simp only [Act.put, sA9, sB9, sC9]
 apply za6
 focus
  intro B L wz hL hD hC
  obtain ⟨F', h1, h2, h3, h4, h5⟩ := hC.call 0 _ rfl hL (hD 8 (by kernel_rfl)) (.inl rfl) (by rfl) (by rfl)
  have hfr := hC.fr
  refine .inl ⟨by rfl, ?_⟩
  unfold za2
  go_simp
  refine (zdF wz F' g _ h1 (B 8).1 3 [x.size, x.at_, x.tag] #[I64 x.size, I64 x.at_, I64 x.tag] h2 h3 rfl rfl (by omega) hr3 (by simp only [zbp, List.take_zero, List.map_nil, List.flatten_nil, List.append_nil]; omega)).mono ?_
  rintro e w9 ⟨rfl, ht⟩
  exact ⟨rfl, h5 _ (ht)⟩
 simp only [Act.put, sA9, sB9, sC9]
 apply za6
 focus
  intro B L wz hL hD hC
  refine .inl ⟨by rfl, ?_⟩
  obtain ⟨yg, y16, y17, y18, y19⟩ := HS3.out wz (hF3 wz hC.fr)
  unfold za2
  go_simp
  exact ⟨rfl, hC.keep _ (by rfl)⟩
 simp only [Act.put, sA9, sB9, sC9]
 apply za6
 focus
  intro B L wz hL hD hC
  refine .inl ⟨by rfl, ?_⟩
  obtain ⟨yg, y16, y17, y18, y19⟩ := HS3.out wz (hF3 wz hC.fr)
  unfold za2
  go_simp
  exact ⟨rfl, hC.keep _ (by rfl)⟩
 simp only [Act.put, sA9, sB9, sC9]
 refine zaT (fun b => .slice (some ⟨b.1, 0, none⟩) 1 1) ?_ ?_
 focus
  intro B L wz hL hD hC
  refine .inl ⟨by rfl, ?_⟩
  unfold zc2
  go_simp
  exact ⟨(wz.heap.size, none), rfl, hC.make 12 48 #[.slice x.bytes.a x.bytes.l.length x.bytes.c] (by intro d hd hk; simp only [List.mem_cons, List.not_mem_nil, or_false] at hd; rcases hd with rfl | rfl <;> first | exact ⟨rfl, rfl⟩ | exact absurd hk (by simp)) (by rfl)⟩
 simp only [Act.put, sA9, sB9, sC9]
 apply za6
 focus
  intro B L wz hL hD hC
  obtain ⟨F', h1, h2, h3, h4, h5⟩ := hC.call 1 _ rfl hL (hD 12 (by kernel_rfl)) (.inr ⟨0, _, rfl, rfl, hD 9 (by kernel_rfl)⟩) (by rfl) (by rfl)
  have hfr := hC.fr
  refine .inl ⟨by rfl, ?_⟩
  unfold za2
  go_simp
  refine (zkA wz F' _ g _ h1 (B 12).1 x.bytes.a x.bytes.c x.bytes.l h2 h3 (hby wz hfr) (hap3 wz F' hfr h4) (by omega) hcap.1 hcap.2 (by simp [zbp]; omega)).mono ?_
  rintro e w9 ⟨rfl, ht⟩
  exact ⟨rfl, h5 _ (ht)⟩
 simp only [Act.put, sA9, sB9, sC9]
 refine zdz fun B w14 hC5 => ?_
 obtain ⟨FG, hG, fG, nG⟩ := hC5.done (by intro d hd; simp only [List.mem_cons, List.not_mem_nil, or_false] at hd; rcases hd with rfl | rfl <;> rfl)
 rw [HB.out.2.2.2] at hG
 clear hC5
 go_wp2_with fail
 go_end0
 exact ⟨rfl, WrTo.after (Nw.on Q1) (fun _ h => .inl h) (WrTo.after fE nE ⟨FG, hG, fG, nG⟩)⟩
open Go Go.RowKit
def zet (w : World) (r : Option (List UInt8)) (e : Ending) (w' : World) : Prop :=
 match r with
 | none => e = .returned (.tuple #[.slice none 0 0, .int .i64 2]) ∧ Nw w w'
 | some b => ∃ A c, e = .returned (.tuple #[.slice A b.length c, .int .i64 0]) ∧ Own w' 5 1 A b.length c (b.map B8) ∧ Nw w w' ∧ ∀ k, inA A k → w.heap.size ≤ k
def zc1 (l : List LetM) (k : Nat) : List UInt8 := ((l.take k).map fun x => letB x.x).flatten
theorem zg6 (l : List LetM) (k : Nat) (h : ∀ x ∈ l, zaE x.x = true) : (zc1 l k).length ≤ 4200000 * l.length := by
 have key : ∀ (m : List LetM), (∀ x ∈ m, zaE x.x = true) → ((m.map fun x => letB x.x).flatten).length ≤ 4200000 * m.length := by
  intro m
  induction m with
  | nil => intro _; simp
  | cons e m ih =>
   intro hm
   have h1 := zjg (hm e (by simp))
   have h2 := ih (fun x hx => hm x (by simp [hx]))
   simp only [List.map_cons, List.flatten_cons, List.length_append, List.length_cons]
   omega
 have h1 := key (l.take k) (fun x hx => h x (List.mem_of_mem_take hx))
 have h2 : (l.take k).length ≤ l.length := by rw [List.length_take]; omega
 unfold zc1
 omega
theorem zgt (l : List LetM) (k : Nat) (h : k < l.length) : zc1 l (k + 1) = zc1 l k ++ letB (l[k]).x := by
 unfold zc1
 rw [List.take_succ_eq_append_getElem h, List.map_append, List.flatten_append]
 simp
theorem zfu (l : List LetM) (k : Nat) (h : l.length ≤ k) : enc l.length ++ zc1 l k = zcw (l.map LetM.x) := by
 unfold zc1 zcw
 rw [List.take_of_length_le h, List.length_map, List.map_map]
 rfl
def LpRel (w : World) (F : Nat → Prop) (g : Nat) (l : List LetM) (i : Value) (wr : World) : Prop :=
 ∃ k : Nat, k ≤ l.length ∧ i = .int .i64 k ∧ WrTo w F g (W8 (enc l.length ++ zc1 l k)) wr
theorem zib (w : World) (F : Nat → Prop) (A : Option Addr) (c : Nat) (l : List LetM) (h : Sl w F A (zai l)) (he : ∀ x ∈ l, za3 w F x) (hz : ∀ x ∈ l, za8 x) (hsz : l.length ≤ 10000) :
  Calls Tryz.prog 31 #[.slice A l.length c] w fun e w' => zet w (zbU (l.map LetM.x)) e w' := by
 have hrt := zd3 w F A c l h he hz (by omega)
 have hgo : ∀ r, zbU (l.map LetM.x) = r → Calls Tryz.prog 31 #[.slice A l.length c] w fun e w' => zet w r e w' := by
  cases hd : zbF (l.map LetM.x) with
  | false =>
   intro r hr
   have : r = none := by rw [← hr]; unfold zbU; rw [hd]; rfl
   subst this
   clear hr
   rw [hd] at hrt
   go_enter Tryz.func31, Tryz.ntmps31
   go_wp2_with fail
   refine hrt.mono ?_
   rintro e w1 ⟨rfl, q1⟩
   go_wp2_with fail
   go_ret2
   exact ⟨rfl, q1⟩
  | true =>
   intro r hr
   have hr2 : r = some (zcw (l.map LetM.x)) := by rw [← hr]; unfold zbU; rw [hd]; rfl
   subst hr2
   clear hr
   have hok : ∀ x ∈ l, zaE x.x = true := fun x hx => (zcJ _).1 hd _ (List.mem_map.2 ⟨x, hx, rfl⟩)
   rw [hd] at hrt
   have hmost : ∀ k, (enc l.length ++ zc1 l k).length ≤ 50000000000 := fun k => by
    have := zg6 l k hok
    have := zaR l.length
    rw [List.length_append]
    omega
   have HOK := Lib.hid hok
   have HE := Lib.hid he
   clear hok hd he
   go_enter Tryz.func31, Tryz.ntmps31
   go_upto_region 3 with (go_at_call 35; refine hrt.mono ?_; rintro e w1 ⟨rfl, q1⟩)
   obtain ⟨g, hg⟩ : ∃ g, g = w1.heap.size := ⟨_, rfl⟩
   have hnw := zhP w1
   rw [← hg] at hnw
   have hgw : w.heap.size ≤ g := by rw [hg]; exact q1.size
   clear hg
   go_upto_region 4 with (go_at_call 68; refine hnw.mono ?_; rintro e w2 ⟨rfl, hw2, q2⟩)
   obtain ⟨S, hS⟩ : ∃ S, S = w2.heap.size := ⟨_, rfl⟩
   obtain ⟨W3, hW3⟩ : ∃ W3, W3 = w2.alloc (.cells #[.pointer (some ⟨g, 0, none⟩)] 124) := ⟨_, rfl⟩
   have q3 : Nw w2 W3 := by rw [hW3]; exact (Fr.refl (fun _ => False) w2).alloc _
   have s3 : Blk W3 S 124 #[.pointer (some ⟨g, 0, none⟩)] := by rw [hW3, hS]; exact Blk.new w2 _ _
   have hz3 : W3.heap.size = S + 1 := by rw [hW3, hS]; simp
   have hgS : g < S := by rw [hS]; exact hw2.bound g rfl
   have w3 := hw2.fr q3 (fun _ _ h => h)
   have Q3 : Nw w W3 := (q1.tr q2).tr q3
   have c3 : W3.cell? ⟨S, 0, none⟩ = some (.pointer (some ⟨g, 0, none⟩)) := by simpa using s3.cell 0
   obtain ⟨W4, hW4⟩ : ∃ W4, W4 = W3.alloc (.cells #[I64 l.length] 3) := ⟨_, rfl⟩
   have q4 : Nw W3 W4 := by rw [hW4]; exact (Fr.refl (fun _ => False) W3).alloc _
   have b4 : Blk W4 (S + 1) 3 #[I64 l.length] := by rw [hW4, ← hz3]; exact Blk.new W3 _ _
   have w4 := w3.fr q4 (fun _ _ h => h)
   have hcon := zdF W4 (· = g) g [] w4 (S + 1) 1 [(l.length : Int)] #[I64 l.length] b4 (fun e => by omega) rfl rfl (by omega) (by intro x hx; rw [List.mem_singleton.1 hx]; exact zdj _ (by omega)) (by simp)
   have e1 : [] ++ zah [(l.length : Int)] = enc l.length ++ zc1 l 0 := by simp [zah, zc1]
   rw [e1] at hcon
   have s4 := s3.fr q4 (fun h => h)
   have Q4 : Nw w W4 := Q3.tr q4
   have HW3 := Lib.hid hW3
   have HW4 := Lib.hid hW4
   have HS := Lib.hid hS
   have HZ3 := Lib.hid hz3
   clear hW3 hW4 hS hz3 w3 s3 b4
   rw [← HS.out, ← HW3.out]
   go_upto_region 5 with (go_at_call 69; rw [← HW4.out, HZ3.out]; refine hcon.mono ?_; rintro e w5 ⟨rfl, t5⟩)
   clear hcon c3
   go_wp2_with fail
   go_loopw [20] (fun i wr => LpRel W4 (· = g) g l i wr) (fun i _ => l.length - (intOf i).toNat)
   case atStart => exact ⟨0, Nat.zero_le _, rfl, t5⟩
   case round =>
    clear t5
    obtain ⟨k, hk, rfl, FC, hC, fC, nC⟩ := hrel
    have sr := s4.fr fC (fun h => by omega)
    have cr : wr.cell? ⟨S, 0, none⟩ = some (.pointer (some ⟨g, 0, none⟩)) := by simpa using sr.cell 0
    by_cases hlt : k < l.length
    ·have hno : ∀ j, j < w.heap.size ∧ F j → ¬ (j = g) := fun j hj e => by omega
     obtain ⟨b, of, rfl, _, _, hc⟩ := (((h.mono (F' := fun j => j < w.heap.size ∧ F j) fun j h1 h2 => ⟨h2, h1⟩).fr Q4 (fun _ _ h => h)).fr fC hno).let_ hlt
     have hi0 : (k : Int) < (l.length : Int) := by omega
     have ix := (((HE.out _ (List.getElem_mem hlt)).mono (F' := fun j => j < w.heap.size ∧ F j) fun j h1 h2 => ⟨h2, h1⟩).fr Q4 (fun _ _ h => h)).fr fC hno
     have hokx := HOK.out _ (List.getElem_mem hlt)
     have hsn := zgt l k hlt
     have hmk := hmost k
     obtain ⟨x, hx⟩ : ∃ x, l[k] = x := ⟨_, rfl⟩
     rw [hx] at ix hc hsn hokx
     obtain ⟨E, hE⟩ : ∃ E, E = wr.heap.size := ⟨_, rfl⟩
     obtain ⟨V0, hV0⟩ : ∃ V, V = wr.alloc (.cells zL9A 50) := ⟨_, rfl⟩
     have qv0 : Nw wr V0 := by rw [hV0]; exact (Fr.refl (fun _ => False) wr).alloc _
     have g0 : Blk V0 E 50 zL9A := by rw [hV0, hE]; exact Blk.new _ _ _
     obtain ⟨V1, hV1⟩ : ∃ V, V = V0.setCells E 0 (letL x) := ⟨_, rfl⟩
     have g1 : Blk V1 E 50 (letA x) := by rw [hV1]; exact Blk.setCells (l := zL9L) g0 0 (letL x)
     have m1 : Fr (· = E) V0 V1 := by rw [hV1]; exact (Fr.refl (· = E) _).setCells _ _
     have qv1 : Nw wr V1 := qv0.new m1 (fun b hb => by omega)
     have th1 := Blk.there (l := zL9L) g0 0 20 (by show 0 + 20 ≤ 20; omega)
     have one1 := zbc x
     have hC1 := hC.fr qv1 (fun _ _ h => h)
     have lx := Blk.cells_at (l := (letL x)) g1 0
     have c1 : V1.cell? ⟨S, 0, none⟩ = some (.pointer (some ⟨g, 0, none⟩)) := by simpa using (sr.fr qv1 (fun h => h)).cell 0
     have hap : zbN V1 (fun j => j < w.heap.size ∧ F j) FC := fun j hj => by
      have h1 := Q4.size
      have h2 := fC.size
      have h3 := qv1.size
      exact ⟨by omega, fun hF => (nC j hF).elim (fun h => by omega) (fun h => by omega)⟩
     have hcon := ziP V1 FC (fun j => j < w.heap.size ∧ F j) g _ hC1 x (ix.nw qv1) hap hokx (by omega)
     have HSN := Lib.hid hsn
     have HE0 := Lib.hid hE
     have HV0 := Lib.hid hV0
     have HV1 := Lib.hid hV1
     clear hE hV0 hV1 hsn hx g0 g1 m1 hC1 hC sr
     go_upto_region 8 with (first | (refine za5 rfl 50 _ rfl b (of + k * 20) rfl (letL x) _ hc Tryz.underlying50 rfl (by kernel_rfl) ?_) | (rw [← HE0.out, ← HV0.out]; refine wpList_store_mid rfl 50 _ _ rfl E 0 (letA x) rfl rfl th1 (by kernel_rfl) one1 ?_; rw [← HV1.out]))
     clear cr hc
     go_wp2_with (refine za5 rfl 50 _ rfl E 0 rfl (letL x) _ lx Tryz.underlying50 rfl (by kernel_rfl) ?_)
     refine hcon.mono ?_
     rintro e w6 ⟨rfl, t6⟩
     go_wp2_with fail
     go_roundw
     case rel =>
      refine ⟨k + 1, by omega, by go_num, ?_⟩
      rw [HSN.out, ← List.append_assoc]
      exact WrTo.after fC nC (WrTo.after (Nw.on qv1) (fun _ h => .inl h) t6)
     case measure => simp [intOf]; omega
    ·obtain rfl : k = l.length := by omega
     have hd := zmb wr FC g _ hC rfl (by have := hmost l.length; show (enc l.length ++ zc1 l l.length).length ≤ _; omega)
     have hb : enc l.length ++ zc1 l l.length = zcw (l.map LetM.x) := zfu l _ (Nat.le_refl _)
     have hd2 : Calls Tryz.prog 71 #[.pointer (some ⟨g, 0, none⟩)] wr fun e w' => ∃ A c, e = .returned (.tuple #[.slice A (zcw (l.map LetM.x)).length c, .int .i64 0]) ∧ Own w' 5 1 A (zcw (l.map LetM.x)).length c ((zcw (l.map LetM.x)).map B8) ∧ Nw wr w' ∧ ∀ k, inA A k → wr.heap.size ≤ k := by
      rw [← hb]
      exact hd
     have hfin := Q4.new fC (fun b hb => by omega)
     clear hd hb hC
     obtain ⟨n, hn⟩ : ∃ n, n = (zcw (l.map LetM.x)).length := ⟨_, rfl⟩
     rw [← hn] at hd2
     have HN := Lib.hid hn
     clear hn
     go_wp2_with fail
     refine hd2.mono ?_
     rintro e w6 ⟨A1, c1, rfl, o6, q6, n6⟩
     go_wp2_with fail
     go_ret2
     refine ⟨A1, c1, by rw [← HN.out]; rfl, by rw [← HN.out]; exact o6, hfin.tr q6, fun j hj => Nat.le_trans hfin.size (n6 j hj)⟩
 exact hgo _ rfl
end Go.Proofs.YtippdjaakcgeoaaGreat
