/- Lemmas of the walks: RgC, GdG, RrE, EfT, Rgt, GdH, RrF, WkA. (Laid together by shake.py.) -/
import Derived.Laws.Pointers
import Derived.Test.YtippdjaakcgeoaaGreatPa01
import Derived.Test.YtippdjaakcgeoaaGreatPa02
import Derived.Test.YtippdjaakcgeoaaGreatPa03
import Derived.Test.YtippdjaakcgeoaaGreatPa05
import Derived.Test.YtippdjaakcgeoaaGreatPa13
import Derived.Test.YtippdjaakcgeoaaGreatPa15
set_option linter.unusedVariables false
set_option linter.unusedSimpArgs false
namespace Go.Proofs.YtippdjaakcgeoaaGreat
open Go Go.RowKit
set_option linter.unusedVariables false
set_option linter.unusedSimpArgs false
theorem let_parts (x : LetM) : letOk x.x = (withinB 1 8 [x.kind] && (withinB 0 4 [x.group] && (withinB 1 5 [x.src, x.dst] && (withinB 0 1073741824 [x.term, x.index, x.logt, x.commit, x.size, x.at_, x.base.index, x.base.term] && (withinB 0 4611686018427387903 [x.tag] && (decide (x.ents.l.length ≤ 30) && (decide (x.bytes.l.length ≤ 131072) && (cfgOk x.base.cfg.x && x.ents.l.all entOkM)))))))) := by
  have he : (x.ents.l.map EntM.x).all entOk = x.ents.l.all entOkM := by rw [List.all_map]; rfl
  rw [Bool.eq_iff_iff]
  unfold letOk basOk topOk withinB wOk
  simp only [he, List.length_map, List.all_cons, List.all_nil, Bool.and_true, Bool.and_eq_true, decide_eq_true_eq]
  constructor
  · rintro ⟨⟨h1, h2, h3, h4, h5, h6⟩, h7, ⟨h8, h9, h10, h11⟩, ⟨h12, h13, h14, h15, h16⟩, h17⟩
    exact ⟨h8, h9, ⟨h10, h11⟩, ⟨h1, h2, h3, h4, h5, h6, h14, h15⟩, h7, h12, h13, h16, h17⟩
  · rintro ⟨h8, h9, ⟨h10, h11⟩, ⟨h1, h2, h3, h4, h5, h6, h14, h15⟩, h7, h12, h13, h16, h17⟩
    exact ⟨⟨h1, h2, h3, h4, h5, h6⟩, h7, ⟨h8, h9, h10, h11⟩, ⟨h12, h13, h14, h15, h16⟩, h17⟩
def LRightR (w : World) (l : List LetM) (i : Value) (wr : World) : Prop := ∃ k : Nat, k ≤ l.length ∧ i = .int .i64 k ∧ (∀ j (h : j < l.length), j < k → letOk (l[j]).x = true) ∧ Nw w wr
theorem lets_no {l : List LetM} {k : Nat} (hk : k < l.length) (h : letOk (l[k]).x = false) : letsOk (l.map LetM.x) = false := by
  unfold letsOk
  rw [List.all_eq_false]
  exact ⟨(l[k]).x, List.mem_map.2 ⟨_, List.getElem_mem hk, rfl⟩, by rw [h]; simp⟩
theorem lets_yes {l : List LetM} (h : ∀ j (h : j < l.length), letOk (l[j]).x = true) : letsOk (l.map LetM.x) = true := by
  unfold letsOk
  refine List.all_eq_true.2 fun x hx => ?_
  obtain ⟨y, hy, rfl⟩ := List.mem_map.1 hx
  obtain ⟨j, hj, rfl⟩ := List.mem_iff_getElem.1 hy
  exact h j hj
set_option maxRecDepth 100000 in
set_option maxHeartbeats 16000000 in
theorem lRight_any (w : World) (F : Nat → Prop) (A : Option Addr) (c : Nat) (l : List LetM) (h : Sl w F A (letsC l)) (he : ∀ x ∈ l, LetIn w F x) (hz : ∀ x ∈ l, LetSz x) (hsz : l.length ≤ 1000000000) :
    Calls Tryz.prog 35 #[.slice A l.length c] w fun e w' => e = .returned (.bool (letsOk (l.map LetM.x))) ∧ Nw w w' := by
  have HE := Lib.hid he
  have HZ := Lib.hid hz
  clear he hz
  go_enter Tryz.func35, Tryz.ntmps35
  go_wp2_with fail
  go_loopw [7] (fun i wr => LRightR w l i wr) (fun i _ => l.length - (intOf i).toNat)
  case atStart => exact ⟨0, Nat.zero_le _, rfl, fun _ _ h => by omega, Fr.refl _ _⟩
  case round =>
    obtain ⟨k, hk, rfl, hb, hq⟩ := hrel
    have HB := Lib.hid hb
    clear hb
    by_cases hlt : k < l.length
    · obtain ⟨b, o, rfl, _, _, hc⟩ := (h.fr hq (fun _ _ h => h)).let_ hlt
      have hi0 : (k : Int) < (l.length : Int) := by omega
      have hx := (HE.out _ (List.getElem_mem hlt)).nw hq
      have hz := HZ.out _ (List.getElem_mem hlt)
      have hnx : letOk (l[k]).x = true → LRightR w l (.int .i64 ((k : Int) + 1)) wr := fun hok => ⟨k + 1, hlt, by go_num, fun j hj hjk => by
        by_cases e : j < k
        · exact HB.out j hj e
        · obtain rfl : j = k := by omega
          exact hok, hq⟩
      have hno : letOk (l[k]).x = false → letsOk (l.map LetM.x) = false := lets_no hlt
      obtain ⟨x, hxe⟩ : ∃ x, l[k] = x := ⟨_, rfl⟩
      rw [hxe] at hc hx hz hnx hno
      have hparts := let_parts x
      obtain ⟨ok, hok⟩ : ∃ d, letOk x.x = d := ⟨_, rfl⟩
      rw [hok] at hparts hnx hno
      obtain ⟨G, hG⟩ : ∃ G, G = wr.heap.size := ⟨_, rfl⟩
      obtain ⟨V0, hV0⟩ : ∃ V, V = wr.alloc (.cells #[U8V 0, I64 0, I64 0, I64 0, I64 0, I64 0, I64 0, I64 0, .bool false, .slice none 0 0, I64 0, I64 0, .slice none 0 0, .slice none 0 0, .slice none 0 0, .slice none 0 0, I64 0, I64 0, I64 0, .slice none 0 0] 50) := ⟨_, rfl⟩
      have qv0 : Nw wr V0 := by rw [hV0]; exact (Fr.refl (fun _ => False) wr).alloc _
      have g0 : Blk V0 G 50 #[U8V 0, I64 0, I64 0, I64 0, I64 0, I64 0, I64 0, I64 0, .bool false, .slice none 0 0, I64 0, I64 0, .slice none 0 0, .slice none 0 0, .slice none 0 0, .slice none 0 0, I64 0, I64 0, I64 0, .slice none 0 0] := by rw [hV0, hG]; exact Blk.new _ _ _
      obtain ⟨V1, hV1⟩ : ∃ V, V = V0.setCells G 0 [U8V x.kind, I64 x.group, I64 x.src, I64 x.dst, I64 x.term, I64 x.index, I64 x.logt, I64 x.commit, .bool x.ok, .slice x.ents.a x.ents.l.length x.ents.c, I64 x.base.index, I64 x.base.term, .slice x.base.cfg.v.a x.base.cfg.v.l.length x.base.cfg.v.c, .slice x.base.cfg.o.a x.base.cfg.o.l.length x.base.cfg.o.c, .slice x.base.cfg.l.a x.base.cfg.l.l.length x.base.cfg.l.c, .slice x.base.cfg.w.a x.base.cfg.w.l.length x.base.cfg.w.c, I64 x.size, I64 x.at_, I64 x.tag, .slice x.bytes.a x.bytes.l.length x.bytes.c] := ⟨_, rfl⟩
      have g1 : Blk V1 G 50 #[U8V x.kind, I64 x.group, I64 x.src, I64 x.dst, I64 x.term, I64 x.index, I64 x.logt, I64 x.commit, .bool x.ok, .slice x.ents.a x.ents.l.length x.ents.c, I64 x.base.index, I64 x.base.term, .slice x.base.cfg.v.a x.base.cfg.v.l.length x.base.cfg.v.c, .slice x.base.cfg.o.a x.base.cfg.o.l.length x.base.cfg.o.c, .slice x.base.cfg.l.a x.base.cfg.l.l.length x.base.cfg.l.c, .slice x.base.cfg.w.a x.base.cfg.w.l.length x.base.cfg.w.c, I64 x.size, I64 x.at_, I64 x.tag, .slice x.bytes.a x.bytes.l.length x.bytes.c] := by rw [hV1]; exact Blk.setCells (l := [U8V 0, I64 0, I64 0, I64 0, I64 0, I64 0, I64 0, I64 0, .bool false, .slice none 0 0, I64 0, I64 0, .slice none 0 0, .slice none 0 0, .slice none 0 0, .slice none 0 0, I64 0, I64 0, I64 0, .slice none 0 0]) g0 0 [U8V x.kind, I64 x.group, I64 x.src, I64 x.dst, I64 x.term, I64 x.index, I64 x.logt, I64 x.commit, .bool x.ok, .slice x.ents.a x.ents.l.length x.ents.c, I64 x.base.index, I64 x.base.term, .slice x.base.cfg.v.a x.base.cfg.v.l.length x.base.cfg.v.c, .slice x.base.cfg.o.a x.base.cfg.o.l.length x.base.cfg.o.c, .slice x.base.cfg.l.a x.base.cfg.l.l.length x.base.cfg.l.c, .slice x.base.cfg.w.a x.base.cfg.w.l.length x.base.cfg.w.c, I64 x.size, I64 x.at_, I64 x.tag, .slice x.bytes.a x.bytes.l.length x.bytes.c]
      have m1 : Fr (· = G) V0 V1 := by rw [hV1]; exact (Fr.refl (· = G) _).setCells _ _
      have qv1 : Nw wr V1 := qv0.new m1 (fun b hb => by omega)
      have hth := Blk.there (l := [U8V 0, I64 0, I64 0, I64 0, I64 0, I64 0, I64 0, I64 0, .bool false, .slice none 0 0, I64 0, I64 0, .slice none 0 0, .slice none 0 0, .slice none 0 0, .slice none 0 0, I64 0, I64 0, I64 0, .slice none 0 0]) g0 0 20 (by show 0 + 20 ≤ 20; omega)
      have hone := letA_one x
      have z1 : ∀ w1, Nw V1 w1 → Calls Tryz.prog 77 #[I64 1, I64 8, .slice (some ⟨w1.heap.size, 0, none⟩) 1 1] (w1.alloc (.cells #[I64 x.kind] 3)) fun e w' => e = .returned (.bool (withinB 1 8 [x.kind])) ∧ Nw w1 w' := fun w1 f => (within_any (w1.alloc (.cells #[I64 x.kind] 3)) (· = w1.heap.size) _ 1 [x.kind] 1 8 (sl_new w1 3 [I64 x.kind] _ rfl) (by show 1 ≤ 1000000000; omega)).mono fun e w' h => ⟨h.1, ((Fr.refl (fun _ => False) w1).alloc _).tr h.2⟩
      have z2 : ∀ w1, Nw V1 w1 → Calls Tryz.prog 77 #[I64 0, I64 4, .slice (some ⟨w1.heap.size, 0, none⟩) 1 1] (w1.alloc (.cells #[I64 x.group] 3)) fun e w' => e = .returned (.bool (withinB 0 4 [x.group])) ∧ Nw w1 w' := fun w1 f => (within_any (w1.alloc (.cells #[I64 x.group] 3)) (· = w1.heap.size) _ 1 [x.group] 0 4 (sl_new w1 3 [I64 x.group] _ rfl) (by show 1 ≤ 1000000000; omega)).mono fun e w' h => ⟨h.1, ((Fr.refl (fun _ => False) w1).alloc _).tr h.2⟩
      have z3 : ∀ w1, Nw V1 w1 → Calls Tryz.prog 77 #[I64 1, I64 5, .slice (some ⟨w1.heap.size, 0, none⟩) 2 2] (w1.alloc (.cells #[I64 x.src, I64 x.dst] 3)) fun e w' => e = .returned (.bool (withinB 1 5 [x.src, x.dst])) ∧ Nw w1 w' := fun w1 f => (within_any (w1.alloc (.cells #[I64 x.src, I64 x.dst] 3)) (· = w1.heap.size) _ 2 [x.src, x.dst] 1 5 (sl_new w1 3 [I64 x.src, I64 x.dst] _ rfl) (by show 2 ≤ 1000000000; omega)).mono fun e w' h => ⟨h.1, ((Fr.refl (fun _ => False) w1).alloc _).tr h.2⟩
      have z4 : ∀ w1, Nw V1 w1 → Calls Tryz.prog 77 #[I64 0, I64 1073741824, .slice (some ⟨w1.heap.size, 0, none⟩) 8 8] (w1.alloc (.cells #[I64 x.term, I64 x.index, I64 x.logt, I64 x.commit, I64 x.size, I64 x.at_, I64 x.base.index, I64 x.base.term] 3)) fun e w' => e = .returned (.bool (withinB 0 1073741824 [x.term, x.index, x.logt, x.commit, x.size, x.at_, x.base.index, x.base.term])) ∧ Nw w1 w' := fun w1 f => (within_any (w1.alloc (.cells #[I64 x.term, I64 x.index, I64 x.logt, I64 x.commit, I64 x.size, I64 x.at_, I64 x.base.index, I64 x.base.term] 3)) (· = w1.heap.size) _ 8 [x.term, x.index, x.logt, x.commit, x.size, x.at_, x.base.index, x.base.term] 0 1073741824 (sl_new w1 3 [I64 x.term, I64 x.index, I64 x.logt, I64 x.commit, I64 x.size, I64 x.at_, I64 x.base.index, I64 x.base.term] _ rfl) (by show 8 ≤ 1000000000; omega)).mono fun e w' h => ⟨h.1, ((Fr.refl (fun _ => False) w1).alloc _).tr h.2⟩
      have z5 : ∀ w1, Nw V1 w1 → Calls Tryz.prog 77 #[I64 0, I64 4611686018427387903, .slice (some ⟨w1.heap.size, 0, none⟩) 1 1] (w1.alloc (.cells #[I64 x.tag] 3)) fun e w' => e = .returned (.bool (withinB 0 4611686018427387903 [x.tag])) ∧ Nw w1 w' := fun w1 f => (within_any (w1.alloc (.cells #[I64 x.tag] 3)) (· = w1.heap.size) _ 1 [x.tag] 0 4611686018427387903 (sl_new w1 3 [I64 x.tag] _ rfl) (by show 1 ≤ 1000000000; omega)).mono fun e w' h => ⟨h.1, ((Fr.refl (fun _ => False) w1).alloc _).tr h.2⟩
      have z6 : ∀ w1, Nw V1 w1 → Calls Tryz.prog 78 #[.agg #[.slice x.base.cfg.v.a x.base.cfg.v.l.length x.base.cfg.v.c, .slice x.base.cfg.o.a x.base.cfg.o.l.length x.base.cfg.o.c, .slice x.base.cfg.l.a x.base.cfg.l.l.length x.base.cfg.l.c, .slice x.base.cfg.w.a x.base.cfg.w.l.length x.base.cfg.w.c]] w1 fun e w' => e = .returned (.bool (cfgOk x.base.cfg.x)) ∧ Nw w1 w' := fun w1 f => jcfg w1 F x.base.cfg (hx.cfg.nw (qv1.tr f)) hz.cfg
      have z7 : ∀ w1, Nw V1 w1 → Calls Tryz.prog 79 #[.slice x.ents.a x.ents.l.length x.ents.c, .func (.func 80) #[] #[]] w1 fun e w' => e = .returned (.bool (!x.ents.l.all entOkM)) ∧ Nw w1 w' := fun w1 f => ents_contains w1 F _ _ x.ents.l (hx.ents.nw (qv1.tr f)).sl (by have := hz.ents; omega) (fun e he => (hx.each e he).nw (qv1.tr f)) hz.each
      obtain ⟨d6, hd6⟩ : ∃ d, cfgOk x.base.cfg.x = d := ⟨_, rfl⟩
      obtain ⟨d7, hd7⟩ : ∃ d, x.ents.l.all entOkM = d := ⟨_, rfl⟩
      simp only [hd6] at z6
      simp only [hd7] at z7
      obtain ⟨d1, hd1⟩ : ∃ d, withinB 1 8 [x.kind] = d := ⟨_, rfl⟩
      simp only [hd1] at z1
      have Z1 := Lib.hid z1
      obtain ⟨d2, hd2⟩ : ∃ d, withinB 0 4 [x.group] = d := ⟨_, rfl⟩
      simp only [hd2] at z2
      have Z2 := Lib.hid z2
      obtain ⟨d3, hd3⟩ : ∃ d, withinB 1 5 [x.src, x.dst] = d := ⟨_, rfl⟩
      simp only [hd3] at z3
      have Z3 := Lib.hid z3
      obtain ⟨d4, hd4⟩ : ∃ d, withinB 0 1073741824 [x.term, x.index, x.logt, x.commit, x.size, x.at_, x.base.index, x.base.term] = d := ⟨_, rfl⟩
      simp only [hd4] at z4
      have Z4 := Lib.hid z4
      obtain ⟨d5, hd5⟩ : ∃ d, withinB 0 4611686018427387903 [x.tag] = d := ⟨_, rfl⟩
      simp only [hd5] at z5
      have Z5 := Lib.hid z5
      rw [hd1, hd2, hd3, hd4, hd5, hd6, hd7] at hparts
      have hkd := hx.kind
      have hel : x.ents.l.length ≤ 1000000 := hz.ents
      have hbl : x.bytes.l.length ≤ 1000000 := hz.bytes
      have HG := Lib.hid hG
      have HV0 := Lib.hid hV0
      have HV1 := Lib.hid hV1
      have HP := Lib.hid hparts
      have HNX := Lib.hid hnx
      have HNO := Lib.hid hno
      have Z6 := Lib.hid z6
      have Z7 := Lib.hid z7
      have HOK := Lib.hid hok
      clear hG hV0 hV1 m1 g0 qv0 hparts hnx hno hok hd6 hd7 hd1 z1 hd2 z2 hd3 z3 hd4 z4 hd5 z5 z6 z7 hxe hx hz
      go_upto_region 4 with (first | (refine wl_load_cells rfl 50 _ rfl b (o + k * 20) rfl [U8V x.kind, I64 x.group, I64 x.src, I64 x.dst, I64 x.term, I64 x.index, I64 x.logt, I64 x.commit, .bool x.ok, .slice x.ents.a x.ents.l.length x.ents.c, I64 x.base.index, I64 x.base.term, .slice x.base.cfg.v.a x.base.cfg.v.l.length x.base.cfg.v.c, .slice x.base.cfg.o.a x.base.cfg.o.l.length x.base.cfg.o.c, .slice x.base.cfg.l.a x.base.cfg.l.l.length x.base.cfg.l.c, .slice x.base.cfg.w.a x.base.cfg.w.l.length x.base.cfg.w.c, I64 x.size, I64 x.at_, I64 x.tag, .slice x.bytes.a x.bytes.l.length x.bytes.c] _ hc Tryz.underlying50 rfl (by kernel_rfl) ?_) | (rw [← HG.out, ← HV0.out]; refine wpList_store_mid rfl 50 _ _ rfl G 0 #[U8V x.kind, I64 x.group, I64 x.src, I64 x.dst, I64 x.term, I64 x.index, I64 x.logt, I64 x.commit, .bool x.ok, .slice x.ents.a x.ents.l.length x.ents.c, I64 x.base.index, I64 x.base.term, .slice x.base.cfg.v.a x.base.cfg.v.l.length x.base.cfg.v.c, .slice x.base.cfg.o.a x.base.cfg.o.l.length x.base.cfg.o.c, .slice x.base.cfg.l.a x.base.cfg.l.l.length x.base.cfg.l.c, .slice x.base.cfg.w.a x.base.cfg.w.l.length x.base.cfg.w.c, I64 x.size, I64 x.at_, I64 x.tag, .slice x.bytes.a x.bytes.l.length x.bytes.c] rfl rfl hth (by kernel_rfl) hone ?_))
      rw [← HV1.out]
      have gg := g1.fr (Fr.refl (fun _ => False) V1) (fun h => h)
      have k0 : V1.cell? ⟨G, 0, none⟩ = some (U8V x.kind) := by simpa using gg.cell 0
      clear gg
      have hcv : IntKind.i64.wrap x.kind = x.kind := IntWalk.i64_in _ (by omega)
      go_wp2_with fail
      refine (Z1.out _ (Fr.refl (fun _ => False) V1)).mono ?_
      rintro e v1 ⟨rfl, r1⟩
      have Q1 : Nw V1 v1 := (Fr.refl (fun _ => False) V1).tr r1
      clear k0
      cases d1 with
      | false =>
        go_wp2_with fail
        go_ret
        exact ⟨ret_eq (congrArg Value.bool (HNO.out (by rw [HP.out]; simp)).symm), (hq.tr qv1).tr Q1⟩
      | true =>
      have gg := g1.fr Q1 (fun h => h)
      have k1 : v1.cell? ⟨G, 1, none⟩ = some (I64 x.group) := by simpa using gg.cell 1
      clear gg
      go_wp2_with fail
      refine (Z2.out _ Q1).mono ?_
      rintro e v2 ⟨rfl, r2⟩
      have Q2 : Nw V1 v2 := Q1.tr r2
      clear k1
      cases d2 with
      | false =>
        go_wp2_with fail
        go_ret
        exact ⟨ret_eq (congrArg Value.bool (HNO.out (by rw [HP.out]; simp)).symm), (hq.tr qv1).tr Q2⟩
      | true =>
      have gg := g1.fr Q2 (fun h => h)
      have k2 : v2.cell? ⟨G, 2, none⟩ = some (I64 x.src) := by simpa using gg.cell 2
      have k3 : v2.cell? ⟨G, 3, none⟩ = some (I64 x.dst) := by simpa using gg.cell 3
      clear gg
      go_wp2_with fail
      refine (Z3.out _ Q2).mono ?_
      rintro e v3 ⟨rfl, r3⟩
      have Q3 : Nw V1 v3 := Q2.tr r3
      clear k2 k3
      cases d3 with
      | false =>
        go_wp2_with fail
        go_ret
        exact ⟨ret_eq (congrArg Value.bool (HNO.out (by rw [HP.out]; simp)).symm), (hq.tr qv1).tr Q3⟩
      | true =>
      have gg := g1.fr Q3 (fun h => h)
      have k4 : v3.cell? ⟨G, 4, none⟩ = some (I64 x.term) := by simpa using gg.cell 4
      have k5 : v3.cell? ⟨G, 5, none⟩ = some (I64 x.index) := by simpa using gg.cell 5
      have k6 : v3.cell? ⟨G, 6, none⟩ = some (I64 x.logt) := by simpa using gg.cell 6
      have k7 : v3.cell? ⟨G, 7, none⟩ = some (I64 x.commit) := by simpa using gg.cell 7
      have k16 : v3.cell? ⟨G, 16, none⟩ = some (I64 x.size) := by simpa using gg.cell 16
      have k17 : v3.cell? ⟨G, 17, none⟩ = some (I64 x.at_) := by simpa using gg.cell 17
      have k10 : v3.cell? ⟨G, 10, none⟩ = some (I64 x.base.index) := by simpa using gg.cell 10
      have k11 : v3.cell? ⟨G, 11, none⟩ = some (I64 x.base.term) := by simpa using gg.cell 11
      clear gg
      go_wp2_with fail
      refine (Z4.out _ Q3).mono ?_
      rintro e v4 ⟨rfl, r4⟩
      have Q4 : Nw V1 v4 := Q3.tr r4
      clear k4 k5 k6 k7 k16 k17 k10 k11
      cases d4 with
      | false =>
        go_wp2_with fail
        go_ret
        exact ⟨ret_eq (congrArg Value.bool (HNO.out (by rw [HP.out]; simp)).symm), (hq.tr qv1).tr Q4⟩
      | true =>
      have gg := g1.fr Q4 (fun h => h)
      have k18 : v4.cell? ⟨G, 18, none⟩ = some (I64 x.tag) := by simpa using gg.cell 18
      clear gg
      go_wp2_with fail
      refine (Z5.out _ Q4).mono ?_
      rintro e v5 ⟨rfl, r5⟩
      have Q5 : Nw V1 v5 := Q4.tr r5
      clear k18
      cases d5 with
      | false =>
        go_wp2_with fail
        go_ret
        exact ⟨ret_eq (congrArg Value.bool (HNO.out (by rw [HP.out]; simp)).symm), (hq.tr qv1).tr Q5⟩
      | true =>
      have gg := g1.fr Q5 (fun h => h)
      have k9 : v5.cell? ⟨G, 9, none⟩ = some (.slice x.ents.a x.ents.l.length x.ents.c) := by simpa using gg.cell 9
      have k19 : v5.cell? ⟨G, 19, none⟩ = some (.slice x.bytes.a x.bytes.l.length x.bytes.c) := by simpa using gg.cell 19
      have k12 : v5.cell? ⟨G, 12, none⟩ = some (.slice x.base.cfg.v.a x.base.cfg.v.l.length x.base.cfg.v.c) := by simpa using gg.cell 12
      have k13 : v5.cell? ⟨G, 13, none⟩ = some (.slice x.base.cfg.o.a x.base.cfg.o.l.length x.base.cfg.o.c) := by simpa using gg.cell 13
      have k14 : v5.cell? ⟨G, 14, none⟩ = some (.slice x.base.cfg.l.a x.base.cfg.l.l.length x.base.cfg.l.c) := by simpa using gg.cell 14
      have k15 : v5.cell? ⟨G, 15, none⟩ = some (.slice x.base.cfg.w.a x.base.cfg.w.l.length x.base.cfg.w.c) := by simpa using gg.cell 15
      clear gg
      by_cases h30 : x.ents.l.length ≤ 30
      case neg =>
        have g2 : (30 : Int) < (x.ents.l.length : Int) := by omega
        have HN := Lib.hid (decide_eq_false h30)
        go_wp2_with fail
        go_ret
        exact ⟨ret_eq (congrArg Value.bool (HNO.out (by rw [HP.out, HN.out]; simp)).symm), (hq.tr qv1).tr Q5⟩
      have h30i : (x.ents.l.length : Int) ≤ 30 := by omega
      have Hh30 := Lib.hid (decide_eq_true h30)
      by_cases h13 : x.bytes.l.length ≤ 131072
      case neg =>
        have g2 : (131072 : Int) < (x.bytes.l.length : Int) := by omega
        have HN := Lib.hid (decide_eq_false h13)
        go_wp2_with fail
        go_ret
        exact ⟨ret_eq (congrArg Value.bool (HNO.out (by rw [HP.out, HN.out]; simp)).symm), (hq.tr qv1).tr Q5⟩
      have h13i : (x.bytes.l.length : Int) ≤ 131072 := by omega
      have Hh13 := Lib.hid (decide_eq_true h13)
      go_wp2_with fail
      refine (Z6.out _ Q5).mono ?_
      rintro e v6 ⟨rfl, r6⟩
      have Q6 : Nw V1 v6 := Q5.tr r6
      clear k9 k19 k12 k13 k14 k15
      cases d6 with
      | false =>
        go_wp2_with fail
        go_ret
        exact ⟨ret_eq (congrArg Value.bool (HNO.out (by rw [HP.out]; simp)).symm), (hq.tr qv1).tr Q6⟩
      | true =>
      have gg := g1.fr Q6 (fun h => h)
      have k9 : v6.cell? ⟨G, 9, none⟩ = some (.slice x.ents.a x.ents.l.length x.ents.c) := by simpa using gg.cell 9
      clear gg
      go_wp2_with fail
      refine (Z7.out _ Q6).mono ?_
      rintro e v7 ⟨rfl, r7⟩
      have Q7 : Nw V1 v7 := Q6.tr r7
      cases d7 with
      | false =>
        go_wp2_with fail
        go_ret
        exact ⟨ret_eq (congrArg Value.bool (HNO.out (by rw [HP.out]; simp)).symm), (hq.tr qv1).tr Q7⟩
      | true =>
        go_wp2_with fail
        go_roundw
        case rel =>
          obtain ⟨kk, a1, a2, a3, a4⟩ := HNX.out (by rw [HP.out, Hh30.out, Hh13.out]; rfl)
          exact ⟨kk, a1, a2, a3, (hq.tr qv1).tr Q7⟩
        case measure => simp [intOf]; omega
    · obtain rfl : l.length = k := by omega
      go_wp2_with fail
      go_ret
      exact ⟨ret_eq (congrArg Value.bool (lets_yes (fun j hj => HB.out j hj hj)).symm), hq⟩
end Go.Proofs.YtippdjaakcgeoaaGreat

namespace Go.Proofs.YtippdjaakcgeoaaGreat
open Go Go.RowKit
set_option linter.unusedVariables false
set_option linter.unusedSimpArgs false
/-- The worlds of the drawn region: was the flag read, was the kind set, was the flag set. -/
def FlagC (T : Bool → Bool → Bool → World → Prop) (L : Nat → Bool) (w : World) : Prop := T (L 4) (L 6) (L 8) w
section
variable {T : Bool → Bool → Bool → World → Prop} {L : Nat → Bool} {w : World}
theorem FlagC.keep (h : FlagC T L w) {j : Nat} (n4 : (4 != j) = true) (n6 : (6 != j) = true) (n8 : (8 != j) = true) : FlagC T (onL L j) w := by
  unfold FlagC
  rw [onL_neB n4, onL_neB n6, onL_neB n8]
  exact h
end
end Go.Proofs.YtippdjaakcgeoaaGreat

namespace Go.Proofs.YtippdjaakcgeoaaGreat
open Go Go.RowKit
set_option linter.unusedVariables false
set_option linter.unusedSimpArgs false
/-- The worlds of the last line's region: what was stored. -/
def RxC (W : World) (R : Nat) (cs : Array Value) (L : Nat → Bool) (wz : World) : Prop := (L 16 = false → Nw W wz) ∧ Fr (· = R) W wz ∧ (L 16 = true → Blk wz R 50 cs)
section
variable {W wz w' : World} {R : Nat} {cs : Array Value} {L : Nat → Bool}
theorem RxC.keep (h : RxC W R cs L wz) {j : Nat} (n : (16 != j) = true) : RxC W R cs (onL L j) wz := by
  unfold RxC
  rw [onL_neB n]
  exact h
theorem RxC.nw (h : RxC W R cs L wz) {j : Nat} (n : (16 != j) = true) (q : Nw wz w') : RxC W R cs (onL L j) w' := by
  unfold RxC
  rw [onL_neB n]
  exact ⟨fun e => (h.1 e).tr q, h.2.1.tr (Nw.on q), fun e => (h.2.2 e).fr q (fun h => h)⟩
end
section
variable {P : Program} {o : Oper} {a : Act} {w : World} {K : World → Prop}
theorem effAt_load_cells (ty : TypeId) (x : Operand) (ho : o.op = .load ty x) (g off : Nat) (hx : a.eval x = .pointer (some ⟨g, off, none⟩)) (cs : List Value) (d : TypeDesc) (hc : ∀ j v, cs[j]? = some v → w.cell? ⟨g, off + j, none⟩ = some v)
    (hu : P.underlying ty = some d) (hd : (match d with | .struct _ | .array _ _ => true | _ => false) = true) (hi : (P.info? ty).map (·.size) = some cs.length) (h : K w) : effAt P o a (.agg cs.toArray) K w := by
  unfold effAt execOp
  simp only [ho, hx, Instr.loadAt, Instr.sureAddr, Sem.run_bind, Sem.run_pure, Result.andThen_ok, run_loadVar_cells w g off ty cs d hc hu hd hi]
  exact ⟨rfl, h⟩
theorem effAt_store_mid (ty : TypeId) (x y : Operand) (ho : o.op = .store ty x y) (b f : Nat) (cells : Array Value) (hx : a.eval x = .pointer (some ⟨b, f, none⟩)) (hy : a.eval y = .agg cells)
    (ht : w.there b f cells.size) (hi : (P.info? ty).map (·.size) = some cells.size) (h1 : cells.all (·.oneCell') = true) (h : K (w.setCells b f cells.toList)) : effAt P o a undef K w := by
  unfold effAt execOp
  simp only [ho, hx, hy, Sem.run_bind, Sem.run_pure, Result.andThen_ok, run_storeAt_mid w b f ty cells ht hi h1]
  exact ⟨rfl, h⟩
end
end Go.Proofs.YtippdjaakcgeoaaGreat

namespace Go.Proofs.YtippdjaakcgeoaaGreat
open Go Go.RowKit

/-- What is told of each operation. -/
abbrev BkT (T : Type) := Nat → T
section
variable {T : Type} {P : Program} {ops : Array Oper} {md : Region.Mode} {C : (Nat → Bool) → BkT T → World → Prop}
def updT (B : BkT T) (k : Nat) (b : T) : BkT T := fun j => if j = k then b else B j
theorem updT_self (B : BkT T) (k : Nat) : updT B k (B k) = B := by
  funext j
  unfold updT
  by_cases h : j = k
  · rw [if_pos h, h]
  · rw [if_neg h]
theorem updT_at (B : BkT T) (k : Nat) (b : T) : updT B k b k = b := if_pos rfl
def effUponT (P : Program) (K : T → World → Prop) (vf : T → Value) : Result Next → Prop
  | .ok (.value u) w' => ∃ b, u = vf b ∧ K b w'
  | .ok .skip w' => ∃ b, vf b = undef ∧ K b w'
  | .ok (.enter f args) w' => Calls P f args w' (fun e w'' => ∃ b, e = .returned (vf b) ∧ K b w'')
  | _ => False
def effAtT (P : Program) (o : Oper) (a : Act) (vf : T → Value) (K : T → World → Prop) (w : World) : Prop := effUponT P K vf ((execOp a.eval o).run P w)
def EffInT (md : Region.Mode) (P : Program) (ops : Array Oper) (C : (Nat → Bool) → BkT T → World → Prop) (o : Oper) (k : Nat) (vf : BkT T → Value) (a : Act) (B : BkT T) : Prop :=
  ∀ L w, L k = false → (∀ j, waitsFor md o j = true → L j = true) → C L B w → (Region.wanted o (yielded ops a.tmps) = true ∧ effAtT P o a (fun b => vf (updT B k b)) (fun b w' => C (onL L k) (updT B k b) w') w) ∨ (Region.wanted o (yielded ops a.tmps) = false ∧ ∃ b, vf (updT B k b) = undef ∧ C (onL L k) (updT B k b) w)
def DepT (md : Region.Mode) (ops : Array Oper) (k : Nat) (vf : BkT T → Value) : Prop := ∀ B B' : BkT T, (∀ j, reach md ops fuelR k j = true → B j = B' j) → vf B = vf B'
/-- The walk. -/
def wpEffT (md : Region.Mode) (P : Program) (ops : Array Oper) (C : (Nat → Bool) → BkT T → World → Prop) (Q : BkT T → Act → Prop) : List Oper → Nat → (BkT T → Act) → Prop
  | [], _, a => ∀ B, Q B (a B)
  | o :: rest, k, a => ∃ vf : BkT T → Value, DepT md ops k vf ∧ (∀ B, EffInT md P ops C o k vf (a B) B) ∧ wpEffT md P ops C Q rest (k + 1) (fun B => (a B).put o.dst (vf B))
theorem effUponT_const {K : World → Prop} {K' : T → World → Prop} {v : Value} {vf : T → Value} {b : T} (hv : vf b = v) (hK : ∀ w, K w → K' b w) {r : Result Next} (h : effUpon P K v r) : effUponT P K' vf r := by
  cases r with
  | ok n w' =>
    cases n <;> simp only [effUpon, effUponT] at h ⊢
    case value u => exact ⟨b, by rw [hv]; exact h.1, hK _ h.2⟩
    case skip => exact ⟨b, by rw [hv]; exact h.1, hK _ h.2⟩
    case enter f args => exact h.mono fun e w'' ⟨he, hw⟩ => ⟨b, by rw [hv]; exact he, hK _ hw⟩
  | halt x w' => simp only [effUpon] at h
/-- A value that hangs on what is told of those that it waits for. -/
theorem wpEffT_dep {Q : BkT T → Act → Prop} {o : Oper} {rest : List Oper} {k : Nat} {a : BkT T → Act} (vf : BkT T → Value) (hd : DepT md ops k vf)
    (h1 : ∀ B L w, L k = false → (∀ j, waitsFor md o j = true → L j = true) → C L B w → (Region.wanted o (yielded ops (a B).tmps) = true ∧ effAt P o (a B) (vf B) (C (onL L k) B) w) ∨ (Region.wanted o (yielded ops (a B).tmps) = false ∧ vf B = undef ∧ C (onL L k) B w))
    (h2 : wpEffT md P ops C Q rest (k + 1) (fun B => (a B).put o.dst (vf B))) : wpEffT md P ops C Q (o :: rest) k a := by
  refine ⟨vf, hd, fun B L w hL hD hC => ?_, h2⟩
  rcases h1 B L w hL hD hC with ⟨hw, he⟩ | ⟨hw, hv, hc⟩
  · refine .inl ⟨hw, effUponT_const (b := B k) (by show vf _ = _; rw [updT_self]) (fun w h => ?_) he⟩
    rw [updT_self]
    exact h
  · refine .inr ⟨hw, B k, by rw [updT_self]; exact hv, ?_⟩
    rw [updT_self]
    exact hc
theorem wpEffT_cons {Q : BkT T → Act → Prop} {o : Oper} {rest : List Oper} {k : Nat} {a : BkT T → Act} {v : Value}
    (h1 : ∀ B L w, L k = false → (∀ j, waitsFor md o j = true → L j = true) → C L B w → (Region.wanted o (yielded ops (a B).tmps) = true ∧ effAt P o (a B) v (C (onL L k) B) w) ∨ (Region.wanted o (yielded ops (a B).tmps) = false ∧ v = undef ∧ C (onL L k) B w))
    (h2 : wpEffT md P ops C Q rest (k + 1) (fun B => (a B).put o.dst v)) : wpEffT md P ops C Q (o :: rest) k a :=
  wpEffT_dep (fun _ => v) (fun _ _ _ => rfl) h1 h2
theorem wpEffT_free {Q : BkT T → Act → Prop} {o : Oper} {rest : List Oper} {k : Nat} {a : BkT T → Act} (vf : T → Value)
    (h1 : ∀ B L w, L k = false → (∀ j, waitsFor md o j = true → L j = true) → C L B w → (Region.wanted o (yielded ops (a B).tmps) = true ∧ effAtT P o (a B) vf (fun b w' => C (onL L k) (updT B k b) w') w) ∨ (Region.wanted o (yielded ops (a B).tmps) = false ∧ ∃ b, vf b = undef ∧ C (onL L k) (updT B k b) w))
    (h2 : wpEffT md P ops C Q rest (k + 1) (fun B => (a B).put o.dst (vf (B k)))) : wpEffT md P ops C Q (o :: rest) k a := by
  refine ⟨fun B => vf (B k), fun B B' h => by show vf _ = vf _; rw [h k (by simp [reach])], fun B L w hL hD hC => ?_, h2⟩
  have := h1 B L w hL hD hC
  simpa only [updT_at] using this
theorem wpEffT_nil {Q : BkT T → Act → Prop} {k : Nat} {a : BkT T → Act} (h : ∀ B, Q B (a B)) : wpEffT md P ops C Q [] k a := h
theorem wpEffT_values {Q : BkT T → Act → Prop} (l : List Oper) (k : Nat) (a : BkT T → Act) (hl : ∀ j, l[j]? = ops[k + j]?) (h : wpEffT md P ops C Q l k a) :
    ∃ vf : Nat → BkT T → Value, (∀ j, DepT md ops j (vf j)) ∧ (∀ j o, l[j]? = some o → ∀ B, EffInT md P ops C o (k + j) (vf (k + j)) (frameL ops (fun j => vf j B) (List.range' k j) (a B)) B) ∧ ∀ B, Q B (frameL ops (fun j => vf j B) (List.range' k l.length) (a B)) := by
  induction l generalizing k a with
  | nil => exact ⟨fun _ _ => undef, fun _ _ _ _ => rfl, fun j o hj => (by simp at hj), fun B => h B⟩
  | cons o l ih =>
    obtain ⟨v, hdp, he, hr⟩ := h
    obtain ⟨V, h0, h1, h2⟩ := ih (k + 1) _ (fun j => by have := hl (j + 1); simpa [Nat.add_assoc, Nat.add_comm 1 j] using this) hr
    have hd : dstOf ops k = o.dst := by
      have := hl 0
      simp at this
      simp [dstOf, ← this]
    have hF : ∀ B j, frameL ops (fun i => (if i = k then v else V i) B) (List.range' k (j + 1)) (a B) = frameL ops (fun i => V i B) (List.range' (k + 1) j) ((a B).put o.dst (v B)) := fun B j => by
      rw [List.range'_succ]
      show frameL ops _ (List.range' (k + 1) j) ((a B).put (dstOf ops k) ((if k = k then v else V k) B)) = _
      rw [if_pos rfl, hd]
      refine frameL_congr _ _ _ _ fun i hi => ?_
      have := (List.mem_range'_1.1 hi).1
      show (if i = k then v else V i) B = V i B
      rw [if_neg (by omega)]
    refine ⟨fun i => if i = k then v else V i, fun j => ?_, fun j o' hj B => ?_, fun B => ?_⟩
    · show DepT md ops j (if j = k then v else V j)
      by_cases hjk : j = k
      · rw [if_pos hjk, hjk]; exact hdp
      · rw [if_neg hjk]; exact h0 j
    · cases j with
      | zero =>
        simp at hj
        subst hj
        simpa [frameL] using he B
      | succ j =>
        have hj' : l[j]? = some o' := by simpa using hj
        have := h1 j o' hj' B
        rw [hF B j]
        have e : k + (j + 1) = k + 1 + j := by omega
        simp only [e]
        rw [if_neg (by omega)]
        exact this
    · rw [List.length_cons, hF]
      exact h2 B
theorem wpAny_effT {vf : Nat → BkT T → Value} {a0 : Act} {Q : Exit → Act → World → Prop} (hB : effB md ops = true) (hd : ∀ j, DepT md ops j (vf j)) (hV : ∀ j o, ops[j]? = some o → ∀ B, EffInT md P ops C o j (vf j) (frameL ops (fun j => vf j B) (List.range' 0 j) a0) B)
    (hQ : ∀ B w, C (fun j => decide (j < ops.size)) B w → Q .normal (frameL ops (fun j => vf j B) (List.range' 0 ops.size) a0) w) (fuel : Nat) (listed : Array Bool) (a : Act) (w : World) (B : BkT T) (h : EffInv ops md (fun _ _ => True) (fun j => vf j B) a0 fuel listed a w) (hc : C (Lof listed) B w) : wpAny P md ops Q fuel listed a w := by
  induction fuel generalizing listed a w B with
  | zero =>
    have hnil := List.eq_nil_of_length_eq_zero h.cnt.symm
    have hal : ∀ j, j < ops.size → Lof listed j = true := fun j hj => by
      have := List.filter_eq_nil_iff.1 hnil j (List.mem_range'_1.2 ⟨by omega, by omega⟩)
      simpa using this
    have hLe : Lof listed = fun j => decide (j < ops.size) := by
      funext j
      by_cases hj : j < ops.size
      · rw [hal j hj, decide_eq_true hj]
      · rw [decide_eq_false hj]
        cases hx : Lof listed j with
        | false => rfl
        | true => exact absurd (h.size ▸ Lof_lt hx) hj
    refine ⟨?_, ?_⟩
    · refine List.eq_nil_iff_forall_not_mem.2 fun i hi => ?_
      obtain ⟨h0, _⟩ := mem_ready.1 hi
      obtain ⟨h1, h2⟩ := getD_tf h0
      rw [hal i (h.size ▸ h1)] at h2
      cases h2
    · have hf := h.frame
      rw [List.filter_eq_self.2 (fun j hj => hal j (by have := (List.mem_range'_1.1 hj).2; omega))] at hf
      rw [hf]
      exact hQ B w (hLe ▸ hc)
  | succ fuel ih =>
    refine ⟨fun hnil => ?_, fun i hi => ?_⟩
    · exfalso
      have hal : ∀ k, k ≤ ops.size → ∀ j, j < k → Lof listed j = true := by
        intro k
        induction k with
        | zero => intro _ j hj; omega
        | succ k ihk =>
          intro hk j hj
          by_cases hjk : j < k
          · exact ihk (by omega) j hjk
          · obtain rfl : j = k := by omega
            cases hx : Lof listed j with
            | true => rfl
            | false =>
              exfalso
              obtain ⟨o, ho⟩ : ∃ o, ops[j]? = some o := ⟨_, Array.getElem?_eq_getElem (by omega)⟩
              have : j ∈ Region.ready md ops listed := mem_ready.2 ⟨getD_ft (by rw [h.size]; omega) hx, o, ho, fun e he hb => ihk (by omega) e.on (((effB_spec hB).2 j o ho).1 e he hb)⟩
              rw [hnil] at this
              cases this
      have := h.cnt
      rw [List.filter_eq_nil_iff.2 (fun j hj => by rw [hal ops.size (Nat.le_refl _) j (by have := (List.mem_range'_1.1 hj).2; omega)]; simp)] at this
      simp at this
    · obtain ⟨h0, o, ho, hal⟩ := mem_ready.1 hi
      obtain ⟨hex, hwa⟩ := h.looks hB ho hi
      have hiL := (getD_tf h0).2
      have stepE : ∀ b w', C (onL (Lof listed) i) (updT B i b) w' → wpAny P md ops Q fuel (listed.setIfInBounds i true) (a.put o.dst (vf i (updT B i b))) w' := fun b w' hc' => by
        have h' := h.congrV (V' := fun j => vf j (updT B i b)) (fun j hj => hd j _ _ fun j' hj' => by
          have := reach_listed h.down fuelR j j' hj hj'
          unfold updT
          rw [if_neg (fun e => by rw [e, hiL] at this; cases this)])
        have h2 := h'.step hB ho hi (w' := w') trivial
        exact ih _ _ _ (updT B i b) h2 (by rw [Lof_set (by rw [h.size]; exact (Array.getElem?_eq_some_iff.1 ho).1)]; exact hc')
      have hE := hV i o ho B (Lof listed) w (getD_tf h0).2 (fun j hj => by
        unfold waitsFor at hj
        rw [← Array.any_toList, List.any_eq_true] at hj
        obtain ⟨e, he, h3⟩ := hj
        simp only [Bool.and_eq_true, beq_iff_eq] at h3
        rw [← h3.2]
        exact hal e (by simpa using he) h3.1) hc
      unfold wpOp
      simp only [ho]
      rw [hwa]
      rcases hE with ⟨hw, hE⟩ | ⟨hw, b, hv, hE⟩
      · simp only [hw, if_true]
        refine .inl ?_
        unfold effAtT at hE
        unfold Oper.wp
        rw [hex]
        generalize (execOp (frameL ops (fun j => vf j B) (List.range' 0 i) a0).eval o).run P w = r at hE ⊢
        cases r with
        | ok n w' =>
          cases n <;> simp only [effUponT] at hE <;> simp only [Oper.upon]
          case value u =>
            obtain ⟨b, e1, e2⟩ := hE
            rw [e1]
            exact stepE b _ e2
          case skip =>
            obtain ⟨b, e1, e2⟩ := hE
            rw [← e1]
            exact stepE b _ e2
          case enter f args =>
            exact hE.mono fun e w'' ⟨b, he, hw''⟩ => by subst he; exact stepE b _ hw''
        | halt x w' => simp only [effUponT] at hE
      · simp only [hw, Bool.false_eq_true, if_false]
        rw [← hv]
        exact stepE b _ hE
/-- A drawn region, walked once. -/
theorem wp_region_effT {id : Nat} {Q : Exit → Act → World → Prop} {a : Act} {w : World} {l : List Oper} (C : (Nat → Bool) → BkT T → World → Prop) (B0 : BkT T) (hm : P.follows .mixedOrders = true) (hB : effB .any l.toArray = true) (hC : C (fun _ => false) B0 w.drew)
    (h : wpEffT .any P l.toArray C (fun B a' => ∀ w', C (fun j => decide (j < l.length)) B w' → Q .normal a' w') l 0 (fun _ => a)) : (Code.region id l.toArray true).wp P Q a w := by
  obtain ⟨V, h0, h1, h2⟩ := wpEffT_values l 0 (fun _ => a) (fun j => by simp) h
  refine wp_region_any hm ?_
  have hL0 : Lof (Array.replicate l.toArray.size false) = fun _ => false := by
    funext j
    unfold Lof
    by_cases hj : j < l.length
    · simp [hj]
    · simp [Nat.le_of_not_lt hj]
  refine wpAny_effT (vf := V) (a0 := a) hB h0 (fun j o hj B => ?_) (fun B w' hw' => ?_) _ _ _ w.drew B0 ⟨by simp, fun j o _ hj => (by rw [hL0] at hj; cases hj), ?_, trivial, ?_⟩ (by rw [hL0]; exact hC)
  · have := h1 j o (by simpa using hj) B
    simpa using this
  · have := h2 B w' (by simpa using hw')
    simpa using this
  · rw [hL0, List.filter_eq_nil_iff.2 (fun j _ => by simp)]; rfl
  · rw [hL0, List.filter_eq_self.2 (fun j _ => by simp)]; simp
end
end Go.Proofs.YtippdjaakcgeoaaGreat

namespace Go.Proofs.YtippdjaakcgeoaaGreat
open Go Go.RowKit
set_option linter.unusedVariables false
set_option linter.unusedSimpArgs false
/-- Call (kc), slice made (kb), append (ka), store (ks). -/
def RgAppT (md : Region.Mode) (ops : Array Oper) (kc kb ka ks : Nat) {T : Type} (S0 : World → Prop) (S1 : T → World → Prop) (S2 S3 S4 : T → T → World → Prop) (L : Nat → Bool) (B : BkT T) (w : World) : Prop :=
  DownB md ops L ∧ (if L ks = true then S4 (B kc) (B ka) w else if L ka = true then S3 (B kc) (B ka) w else if L kb = true then S2 (B kc) (B kb) w else if L kc = true then S1 (B kc) w else S0 w)
section
variable {md : Region.Mode} {ops : Array Oper} {kc kb ka ks : Nat} {T : Type} {S0 : World → Prop} {S1 : T → World → Prop} {S2 S3 S4 : T → T → World → Prop} {L : Nat → Bool} {B : BkT T} {w w' : World} {o : Oper}
theorem RgAppT.start (h : S0 w) : RgAppT md ops kc kb ka ks S0 S1 S2 S3 S4 (fun _ => false) B w := ⟨fun _ _ _ h => (by cases h), by simpa using h⟩
theorem updT_neB {j k : Nat} {b : T} (h : (k != j) = true) : updT B j b k = B k := if_neg (by simpa using h)
theorem RgAppT.keep (h : RgAppT md ops kc kb ka ks S0 S1 S2 S3 S4 L B w) {j : Nat} (ho : ops[j]? = some o) (hD : ∀ i, waitsFor md o i = true → L i = true) (n1 : (kc != j) = true) (n2 : (kb != j) = true) (n3 : (ka != j) = true) (n4 : (ks != j) = true) : RgAppT md ops kc kb ka ks S0 S1 S2 S3 S4 (onL L j) B w :=
  ⟨h.1.step ho hD, by rw [onL_neB n1, onL_neB n2, onL_neB n3, onL_neB n4]; exact h.2⟩
theorem RgAppT.all (h : RgAppT md ops kc kb ka ks S0 S1 S2 S3 S4 L B w) {φ : Prop} (h0 : S0 w → φ) (h1 : ∀ a, S1 a w → φ) (h2 : ∀ a b, S2 a b w → φ) (h3 : ∀ a b, S3 a b w → φ) (h4 : ∀ a b, S4 a b w → φ) : φ := by
  have h5 := h.2
  split at h5
  · exact h4 _ _ h5
  split at h5
  · exact h3 _ _ h5
  split at h5
  · exact h2 _ _ h5
  split at h5
  · exact h1 _ h5
  · exact h0 h5
theorem RgAppT.call (h : RgAppT md ops kc kb ka ks S0 S1 S2 S3 S4 L B w) (hL : L kc = false) (hb : waitsB md ops kb kc = true) (ha : waitsB md ops ka kb = true) (hs : waitsB md ops ks ka = true) (ho : ops[kc]? = some o) (hD : ∀ i, waitsFor md o i = true → L i = true) (n2 : (kb != kc) = true) (n3 : (ka != kc) = true) (n4 : (ks != kc) = true) :
    S0 w ∧ ∀ w' b, S1 b w' → RgAppT md ops kc kb ka ks S0 S1 S2 S3 S4 (onL L kc) (updT B kc b) w' := by
  have lb := h.1.no hb hL
  have la := h.1.no ha lb
  have ls := h.1.no hs la
  refine ⟨by simpa [lb, la, ls, hL] using h.2, fun w' b h1 => ⟨h.1.step ho hD, ?_⟩⟩
  rw [onL_neB n2, onL_neB n3, onL_neB n4, onL_self, lb, la, ls]
  simpa [updT] using h1
theorem RgAppT.build (h : RgAppT md ops kc kb ka ks S0 S1 S2 S3 S4 L B w) (hL : L kb = false) (hc : L kc = true) (ha : waitsB md ops ka kb = true) (hs : waitsB md ops ks ka = true) (ho : ops[kb]? = some o) (hD : ∀ i, waitsFor md o i = true → L i = true) (n1 : (kc != kb) = true) (n3 : (ka != kb) = true) (n4 : (ks != kb) = true) :
    S1 (B kc) w ∧ ∀ w' b, S2 (B kc) b w' → RgAppT md ops kc kb ka ks S0 S1 S2 S3 S4 (onL L kb) (updT B kb b) w' := by
  have la := h.1.no ha hL
  have ls := h.1.no hs la
  refine ⟨by simpa [la, ls, hL, hc] using h.2, fun w' b h1 => ⟨h.1.step ho hD, ?_⟩⟩
  rw [onL_neB n3, onL_neB n4, onL_self, la, ls, updT_neB n1, updT_at]
  simpa using h1
theorem RgAppT.app (h : RgAppT md ops kc kb ka ks S0 S1 S2 S3 S4 L B w) (hL : L ka = false) (hb : L kb = true) (hs : waitsB md ops ks ka = true) (ho : ops[ka]? = some o) (hD : ∀ i, waitsFor md o i = true → L i = true) (n1 : (kc != ka) = true) (n4 : (ks != ka) = true) :
    S2 (B kc) (B kb) w ∧ ∀ w' b, S3 (B kc) b w' → RgAppT md ops kc kb ka ks S0 S1 S2 S3 S4 (onL L ka) (updT B ka b) w' := by
  have ls := h.1.no hs hL
  refine ⟨by simpa [ls, hL, hb] using h.2, fun w' b h1 => ⟨h.1.step ho hD, ?_⟩⟩
  rw [onL_neB n4, onL_self, ls, updT_neB n1, updT_at]
  simpa using h1
theorem RgAppT.store (h : RgAppT md ops kc kb ka ks S0 S1 S2 S3 S4 L B w) (hL : L ks = false) (ha : L ka = true) (ho : ops[ks]? = some o) (hD : ∀ i, waitsFor md o i = true → L i = true) :
    S3 (B kc) (B ka) w ∧ ∀ w', S4 (B kc) (B ka) w' → RgAppT md ops kc kb ka ks S0 S1 S2 S3 S4 (onL L ks) B w' := by
  refine ⟨by simpa [hL, ha] using h.2, fun w' h1 => ⟨h.1.step ho hD, ?_⟩⟩
  rw [onL_self]
  simpa using h1
end
end Go.Proofs.YtippdjaakcgeoaaGreat

namespace Go.Proofs.YtippdjaakcgeoaaGreat
open Go Go.RowKit
set_option linter.unusedVariables false
set_option linter.unusedSimpArgs false
section
variable {P : Program} {Q : Exit → Act → List Frame → World → Prop} {a : Act} {cs cs' : List Frame} {w : World} {id : Nat} {r d : Tmp} {o1 o2 : Oper}
end
section
variable {P : Program}
end
/-- What letter.Get tells. -/
def GetLTo (w : World) (r : Option (List LetF)) (e : Ending) (w' : World) : Prop := Nw w w' ∧ match r with
  | none => e = .returned (.tuple #[.slice none 0 0, .int .i64 4])
  | some l => ∃ s : Ls LetM, e = .returned (.tuple #[.slice s.a s.l.length s.c, .int .i64 0]) ∧ s.l.map LetM.x = l ∧ LsOwn w w' 50 20 letsC s ∧ LetsHd w' (fun j => w.heap.size ≤ j) s.l ∧ ∀ y ∈ s.l, LetSz y
end Go.Proofs.YtippdjaakcgeoaaGreat

namespace Go.Proofs.YtippdjaakcgeoaaGreat
open Go Go.RowKit
set_option linter.unusedVariables false
set_option linter.unusedSimpArgs false
/-- What the document's Get tells. -/
def GetRTo (w : World) (r : Option (List LetF)) (e : Ending) (w' : World) : Prop := Nw w w' ∧ match r with
  | none => e = .returned (.tuple #[.slice none 0 0, .int .i64 4])
  | some l => ∃ s : Ls LetM, e = .returned (.tuple #[.slice s.a s.l.length s.c, .int .i64 0]) ∧ s.l.map LetM.x = l ∧ LsOwn w w' 50 20 letsC s ∧ (∀ y ∈ s.l, LetIn w' (fun j => w.heap.size ≤ j) y) ∧ ∀ y ∈ s.l, LetSz y
end Go.Proofs.YtippdjaakcgeoaaGreat

namespace Go.Proofs.YtippdjaakcgeoaaGreat
open Go Go.RowKit

abbrev W8 (bs : List UInt8) : Wr := ⟨true, bs⟩
theorem wk_apart {w : World} {F : Nat → Prop} {b : Nat} {t : TypeId} {cs : Array Value} (hb : Blk w b t cs) (hF : ¬ F b) : Apart w (· = b) F := fun k hk => by subst hk; exact ⟨hb.lt, hF⟩
theorem wk_nums (w : World) (F : Nat → Prop) (g : Nat) (bs : List UInt8) (h : IsWr w F g (W8 bs)) (b n : Nat) (ns : List Int) (cs : Array Value) (hb : Blk w b 3 cs) (hF : ¬ F b) (hcs : cs.toList = ns.map I64) (hn : ns.length = n) (hn2 : n ≤ 1000) (hr : ∀ x ∈ ns, Right x) (hsz : bs.length ≤ 700000000000) :
    Calls Tryz.prog 69 #[.pointer (some ⟨g, 0, none⟩), .slice (some ⟨b, 0, none⟩) n n] w fun e w' => e = .returned (.pointer (some ⟨g, 0, none⟩)) ∧ WrTo w F g (W8 (bs ++ encAll ns)) w' := by
  subst hn
  have hs := hb.sl 0 cs.size
  rw [List.drop_zero, List.take_of_length_le (by simp), hcs] at hs
  refine (numbers_any w F (· = b) g ⟨true, bs⟩ h (some ⟨b, 0, none⟩) ns.length ns hs (wk_apart hb hF) (by omega) (by show bs.length ≤ _; omega)).mono ?_
  rintro e w' ⟨rfl, h2⟩
  rw [wrNums_right _ _ hr] at h2
  exact ⟨rfl, h2⟩
theorem wk_flags (w : World) (F : Nat → Prop) (g : Nat) (bs : List UInt8) (h : IsWr w F g (W8 bs)) (b n : Nat) (ns : List Bool) (cs : Array Value) (hb : Blk w b 4 cs) (hF : ¬ F b) (hcs : cs.toList = ns.map Value.bool) (hn : ns.length = n) (hn2 : n ≤ 1000) (hsz : bs.length ≤ 700000000000) :
    Calls Tryz.prog 142 #[.pointer (some ⟨g, 0, none⟩), .slice (some ⟨b, 0, none⟩) n n] w fun e w' => e = .returned (.pointer (some ⟨g, 0, none⟩)) ∧ WrTo w F g (W8 (bs ++ (ns.map flagB).flatten)) w' := by
  subst hn
  have hs := hb.sl 0 cs.size
  rw [List.drop_zero, List.take_of_length_le (by simp), hcs] at hs
  refine (flags_any w F (· = b) g ⟨true, bs⟩ h (some ⟨b, 0, none⟩) ns.length ns hs (wk_apart hb hF) (by omega) (by show bs.length ≤ _; omega)).mono ?_
  rintro e w' ⟨rfl, h2⟩
  have e1 : ∀ (ns : List Bool) (bs : List UInt8), wrFlags ns ⟨true, bs⟩ = ⟨true, bs ++ (ns.map flagB).flatten⟩ := by
    intro ns
    induction ns with
    | nil => intro bs; simp [wrFlags]
    | cons m ns ih =>
      intro bs
      have e2 : wrFlags (m :: ns) ⟨true, bs⟩ = wrFlags ns ⟨true, bs ++ flagB m⟩ := rfl
      rw [e2, ih]
      simp
  rw [e1] at h2
  exact ⟨rfl, h2⟩
/-- One row of bytes that lie anywhere apart. -/
theorem wk_row (w : World) (F F2 : Nat → Prop) (g : Nat) (bs : List UInt8) (h : IsWr w F g (W8 bs)) (b : Nat) (A : Option Addr) (c : Nat) (s : List UInt8) (hb : Blk w b 48 #[.slice A s.length c]) (hF : ¬ F b) (hs : Sl w F2 A (s.map B8)) (hF2 : Apart w F2 F) (hs2 : s.length ≤ 1000000) (hc : s.length ≤ c) (hcm : c ≤ maxLen) (hsz : bs.length ≤ 700000000000) :
    Calls Tryz.prog 145 #[.pointer (some ⟨g, 0, none⟩), .slice (some ⟨b, 0, none⟩) 1 1] w fun e w' => e = .returned (.pointer (some ⟨g, 0, none⟩)) ∧ WrTo w F g (W8 (bs ++ rowB s)) w' := by
  have hsl : Sl w (fun k => F2 k ∨ k = b) (some ⟨b, 0, none⟩) [.slice A s.length c] := (hb.sl 0 1).mono (fun k hk _ => .inr hk)
  have hrs : RowsV w (fun k => F2 k ∨ k = b) [.slice A s.length c] [s] := ⟨rfl, fun k hk => by
    have hk0 : k = 0 := by simpa using hk
    subst hk0
    exact ⟨_, rfl, ⟨A, c, rfl, hc, hcm, hs.mono (fun k hk _ => .inl hk)⟩⟩⟩
  have hap : Apart w (fun k => F2 k ∨ k = b) F := fun k hk => by
    rcases hk with hk | rfl
    · exact hF2 k hk
    · exact ⟨hb.lt, hF⟩
  refine (rows_any w F _ g ⟨true, bs⟩ h (some ⟨b, 0, none⟩) 1 [.slice A s.length c] [s] hsl hrs hap (by show bs.length + 9 * 1 + rowsLen [s] ≤ _; simp [rowsLen]; omega)).mono ?_
  rintro e w' ⟨rfl, h2⟩
  have e1 : wrRows [s] ⟨true, bs⟩ = ⟨true, bs ++ rowB s⟩ := by simp [wrRows, wrRow, rowB]
  rw [e1] at h2
  exact ⟨rfl, h2⟩
/-- A call of the writer: the list it takes is made at 'k', it comes at 'c', and puts 'bs'. -/
structure CallD where
  k : Nat
  c : Nat
  t : TypeId
  cs : Array Value
  bs : List UInt8
def noDup : List Nat → Bool
  | [] => true
  | a :: l => l.all (· != a) && noDup l
theorem noDup_ne {l : List Nat} (h : noDup l = true) : ∀ (i j a b : Nat), l[i]? = some a → l[j]? = some b → i ≠ j → a ≠ b := by
  induction l with
  | nil => intro i j a b h1; simp at h1
  | cons x l ih =>
    unfold noDup at h
    rw [Bool.and_eq_true, List.all_eq_true] at h
    intro i j a b h1 h2 hij
    cases i with
    | zero =>
      cases j with
      | zero => exact absurd rfl hij
      | succ j =>
        simp at h1 h2
        subst h1
        have := h.1 b (List.mem_of_getElem? h2)
        rw [bne_iff_ne] at this
        exact Ne.symm this
    | succ i =>
      cases j with
      | zero =>
        simp at h1 h2
        subst h2
        have := h.1 a (List.mem_of_getElem? h1)
        rwa [bne_iff_ne] at this
      | succ j => exact ih h.2 i j a b (by simpa using h1) (by simpa using h2) (by omega)
def callsB (cl : List CallD) : List UInt8 := (cl.map (·.bs)).flatten
def WrC (W : World) (F : Nat → Prop) (g : Nat) (bs0 : List UInt8) (cl : List CallD) (L : Nat → Bool) (B : Bk) (w : World) : Prop :=
  ∃ n F', n ≤ cl.length ∧ (∀ i d, cl[i]? = some d → L d.c = decide (i < n)) ∧ IsWr w F' g (W8 (bs0 ++ callsB (cl.take n))) ∧ Fr F W w ∧ (∀ k, F' k → F k ∨ W.heap.size ≤ k) ∧ ∀ d ∈ cl, L d.k = true → Blk w (B d.k).1 d.t d.cs ∧ ¬ F' (B d.k).1
section
variable {W w w' : World} {F : Nat → Prop} {g : Nat} {bs0 : List UInt8} {cl : List CallD} {L : Nat → Bool} {B : Bk}
theorem WrC.fr (h : WrC W F g bs0 cl L B w) : Fr F W w := by
  obtain ⟨_, _, _, _, _, h, _⟩ := h
  exact h
theorem WrC.start (h : IsWr W F g (W8 bs0)) (B : Bk) : WrC W F g bs0 cl (fun _ => false) B W.drew :=
  ⟨0, F, Nat.zero_le _, fun i d _ => by simp, by simpa [callsB] using h.fr ((Fr.refl (fun _ => False) W).drew) (fun _ _ h => h), (Fr.refl _ W).drew, fun k hk => .inl hk, fun d _ h => by cases h⟩
theorem WrC.keep (h : WrC W F g bs0 cl L B w) (j : Nat) (hj : cl.all (fun d => d.k != j && d.c != j) = true) : WrC W F g bs0 cl (onL L j) B w := by
  obtain ⟨n, F', h1, h2, h3, h4, h5, h6⟩ := h
  have hk : ∀ d ∈ cl, onL L j d.k = L d.k ∧ onL L j d.c = L d.c := fun d hd => by
    have := List.all_eq_true.1 hj d hd
    simp only [Bool.and_eq_true, bne_iff_ne, ne_eq] at this
    exact ⟨if_neg this.1, if_neg this.2⟩
  refine ⟨n, F', h1, fun i d hd => ?_, h3, h4, h5, fun d hd hl => h6 d hd ?_⟩
  · rw [(hk d (List.mem_of_getElem? hd)).2]
    exact h2 i d hd
  · rw [← (hk d hd).1]
    exact hl
theorem WrC.make (h : WrC W F g bs0 cl L B w) (k : Nat) (t : TypeId) (cs : Array Value) (hu : ∀ d ∈ cl, d.k = k → d.t = t ∧ d.cs = cs) (hc : cl.all (fun d => d.c != k) = true) : WrC W F g bs0 cl (onL L k) (updB B k (w.heap.size, none)) (w.alloc (.cells cs t)) := by
  obtain ⟨n, F', h1, h2, h3, h4, h5, h6⟩ := h
  refine ⟨n, F', h1, fun i d hd => ?_, h3.alloc _, h4.alloc _, h5, fun d hd hl => ?_⟩
  · have := List.all_eq_true.1 hc d (List.mem_of_getElem? hd)
    rw [bne_iff_ne] at this
    rw [show onL L k d.c = L d.c from if_neg this]
    exact h2 i d hd
  · by_cases hk : d.k = k
    · obtain ⟨e1, e2⟩ := hu d hd hk
      rw [show updB B k (w.heap.size, none) d.k = (w.heap.size, none) from if_pos hk, e1, e2]
      exact ⟨Blk.new w t cs, fun hF => by have := h3.bound _ hF; omega⟩
    · rw [show onL L k d.k = L d.k from if_neg hk] at hl
      rw [show updB B k (w.heap.size, none) d.k = B d.k from if_neg hk]
      obtain ⟨g1, g2⟩ := h6 d hd hl
      exact ⟨g1.alloc _, g2⟩
theorem WrC.call (h : WrC W F g bs0 cl L B w) (m : Nat) (d : CallD) (hd : cl[m]? = some d) (hL : L d.c = false) (hk : L d.k = true) (hp : m = 0 ∨ ∃ m' d', m = m' + 1 ∧ cl[m']? = some d' ∧ L d'.c = true) (hu : cl.all (fun e => e.k != d.c) = true) (hu3 : noDup (cl.map (·.c)) = true) :
    ∃ F', IsWr w F' g (W8 (bs0 ++ callsB (cl.take m))) ∧ Blk w (B d.k).1 d.t d.cs ∧ ¬ F' (B d.k).1 ∧ (∀ k, F' k → F k ∨ W.heap.size ≤ k) ∧ ∀ w', WrTo w F' g (W8 ((bs0 ++ callsB (cl.take m)) ++ d.bs)) w' → WrC W F g bs0 cl (onL L d.c) B w' := by
  have hu2 : ∀ i e, cl[i]? = some e → i ≠ m → e.c ≠ d.c := fun i e he hi => noDup_ne hu3 i m e.c d.c (by simp [he]) (by simp [hd]) hi
  obtain ⟨n, F', h1, h2, h3, h4, h5, h6⟩ := h
  have hml : m < cl.length := (List.getElem?_eq_some_iff.1 hd).1
  have e1 := h2 m d hd
  rw [hL] at e1
  have e2 : ¬ m < n := of_decide_eq_false e1.symm
  have e3 : n = m := by
    rcases hp with rfl | ⟨m', d', rfl, hd', hl'⟩
    · omega
    · have := h2 m' d' hd'
      rw [hl'] at this
      have := of_decide_eq_true this.symm
      omega
  subst e3
  obtain ⟨g1, g2⟩ := h6 d (List.mem_of_getElem? hd) hk
  refine ⟨F', h3, g1, g2, h5, fun w' ht => ?_⟩
  obtain ⟨F'', t1, t2, t3⟩ := ht
  have hsz := h4.size
  refine ⟨n + 1, F'', by omega, fun i e he => ?_, ?_, h4.trans t2 h5, fun k hk => (t3 k hk).elim (h5 k) (fun h => .inr (by omega)), fun e he hl => ?_⟩
  · by_cases hi : i = n
    · subst hi
      rw [hd] at he
      injection he with he
      subst he
      rw [show onL L d.c d.c = true from if_pos rfl]
      exact (decide_eq_true (by omega)).symm
    · rw [show onL L d.c e.c = L e.c from if_neg (hu2 i e he hi), h2 i e he]
      by_cases h : i < n
      · rw [decide_eq_true h, decide_eq_true (by omega : i < n + 1)]
      · rw [decide_eq_false h, decide_eq_false (by omega : ¬ i < n + 1)]
  · have : callsB (cl.take (n + 1)) = callsB (cl.take n) ++ d.bs := by
      unfold callsB
      rw [List.take_add_one, hd]
      simp
    rw [this, ← List.append_assoc]
    exact t1
  · have hne := List.all_eq_true.1 hu e he
    rw [bne_iff_ne] at hne
    rw [show onL L d.c e.k = L e.k from if_neg hne] at hl
    obtain ⟨g3, g4⟩ := h6 e he hl
    refine ⟨g3.fr t2 g4, fun hF => (t3 _ hF).elim g4 (fun h => ?_)⟩
    have := g3.lt
    omega
theorem WrC.done (h : WrC W F g bs0 cl L B w) (hL : ∀ d ∈ cl, L d.c = true) : WrTo W F g (W8 (bs0 ++ callsB cl)) w := by
  obtain ⟨n, F', h1, h2, h3, h4, h5, h6⟩ := h
  have hn : n = cl.length := by
    rcases Nat.lt_or_ge n cl.length with hlt | hge
    · have h7 := h2 n cl[n] (List.getElem?_eq_getElem hlt)
      rw [hL _ (List.getElem_mem hlt)] at h7
      have := of_decide_eq_true h7.symm
      omega
    · omega
  rw [hn, List.take_length] at h3
  exact ⟨F', h3, h4, h5⟩
/-- As 'WrC', and at 'dk' the writer's bytes are told. -/
def WrD (W : World) (F : Nat → Prop) (g : Nat) (bs0 : List UInt8) (cl : List CallD) (dk : Nat) (L : Nat → Bool) (B : Bk) (w : World) : Prop :=
  WrC W F g bs0 cl L B w ∧ (L dk = true → (∀ d ∈ cl, L d.c = true) ∧ Own w 5 1 (B dk).2 (bs0 ++ callsB cl).length (B dk).1 ((bs0 ++ callsB cl).map B8) ∧ ∀ k, inA (B dk).2 k → W.heap.size ≤ k)
theorem WrD.fr {dk : Nat} (h : WrD W F g bs0 cl dk L B w) : Fr F W w := h.1.fr
theorem WrD.start {dk : Nat} (h : IsWr W F g (W8 bs0)) (B : Bk) : WrD W F g bs0 cl dk (fun _ => false) B W.drew := ⟨WrC.start h B, fun h => by cases h⟩
theorem WrD.keep {dk : Nat} (h : WrD W F g bs0 cl dk L B w) (j : Nat) (hj : cl.all (fun d => d.k != j && d.c != j) = true) (hjd : (dk != j) = true := by rfl) : WrD W F g bs0 cl dk (onL L j) B w := by
  refine ⟨h.1.keep j hj, fun hl => ?_⟩
  rw [bne_iff_ne] at hjd
  rw [show onL L j dk = L dk from if_neg hjd] at hl
  obtain ⟨h1, h2, h3⟩ := h.2 hl
  refine ⟨fun d hd => ?_, h2, h3⟩
  have := List.all_eq_true.1 hj d hd
  simp only [Bool.and_eq_true, bne_iff_ne, ne_eq] at this
  rw [show onL L j d.c = L d.c from if_neg this.2]
  exact h1 d hd
theorem WrD.make {dk : Nat} (h : WrD W F g bs0 cl dk L B w) (k : Nat) (t : TypeId) (cs : Array Value) (hu : ∀ d ∈ cl, d.k = k → d.t = t ∧ d.cs = cs) (hc : cl.all (fun d => d.c != k) = true) (hkd : (dk != k) = true := by rfl) : WrD W F g bs0 cl dk (onL L k) (updB B k (w.heap.size, none)) (w.alloc (.cells cs t)) := by
  refine ⟨h.1.make k t cs hu hc, fun hl => ?_⟩
  rw [bne_iff_ne] at hkd
  rw [show onL L k dk = L dk from if_neg hkd] at hl
  obtain ⟨h1, h2, h3⟩ := h.2 hl
  rw [show updB B k (w.heap.size, none) dk = B dk from if_neg hkd]
  refine ⟨fun d hd => ?_, h2.fr ((Fr.refl (fun _ => False) w).alloc _) (fun _ _ h => h), h3⟩
  have := List.all_eq_true.1 hc d hd
  rw [bne_iff_ne] at this
  rw [show onL L k d.c = L d.c from if_neg this]
  exact h1 d hd
theorem WrD.call {dk : Nat} (h : WrD W F g bs0 cl dk L B w) (m : Nat) (d : CallD) (hd : cl[m]? = some d) (hL : L d.c = false) (hk : L d.k = true) (hp : m = 0 ∨ ∃ m' d', m = m' + 1 ∧ cl[m']? = some d' ∧ L d'.c = true) (hu : cl.all (fun e => e.k != d.c) = true) (hu3 : noDup (cl.map (·.c)) = true) (hdc : (dk != d.c) = true := by rfl) :
    ∃ F', IsWr w F' g (W8 (bs0 ++ callsB (cl.take m))) ∧ Blk w (B d.k).1 d.t d.cs ∧ ¬ F' (B d.k).1 ∧ (∀ k, F' k → F k ∨ W.heap.size ≤ k) ∧ ∀ w', WrTo w F' g (W8 ((bs0 ++ callsB (cl.take m)) ++ d.bs)) w' → WrD W F g bs0 cl dk (onL L d.c) B w' := by
  obtain ⟨F', h1, h2, h3, h4, h5⟩ := h.1.call m d hd hL hk hp hu hu3
  refine ⟨F', h1, h2, h3, h4, fun w' ht => ⟨h5 w' ht, fun hl => ?_⟩⟩
  rw [bne_iff_ne] at hdc
  rw [show onL L d.c dk = L dk from if_neg hdc] at hl
  have := (h.2 hl).1 d (List.mem_of_getElem? hd)
  rw [hL] at this
  cases this
/-- The last call put its bytes. -/
theorem WrC.all (h : WrC W F g bs0 cl L B w) (m : Nat) (d : CallD) (hm : cl.length = m + 1) (hd : cl[m]? = some d) (hl : L d.c = true) : (∀ d ∈ cl, L d.c = true) ∧ ∃ F', IsWr w F' g (W8 (bs0 ++ callsB cl)) ∧ ∀ k, F' k → F k ∨ W.heap.size ≤ k := by
  obtain ⟨n, F', h1, h2, h3, h4, h5, h6⟩ := h
  have h7 := h2 m d hd
  rw [hl] at h7
  have h8 := of_decide_eq_true h7.symm
  have hn : n = cl.length := by omega
  refine ⟨fun e he => ?_, F', by rw [hn, List.take_length] at h3; exact h3, h5⟩
  obtain ⟨i, hi, rfl⟩ := List.mem_iff_getElem.1 he
  rw [h2 i _ (List.getElem?_eq_getElem hi)]
  exact decide_eq_true (by omega)
end
end Go.Proofs.YtippdjaakcgeoaaGreat
