/- Lemmas of the walks: RgC, NoM. (Laid together by shake.py.) -/
import Derived.Test.YtippdjaakcgeoaaGreatNr07
import Derived.Test.YtippdjaakcgeoaaGreatNr08
import Derived.Test.YtippdjaakcgeoaaGreatNr09
set_option linter.unusedVariables false
set_option linter.unusedSimpArgs false
namespace Go.Proofs.YtippdjaakcgeoaaGreat
open Go Go.RowKit
set_option linter.unusedVariables false
set_option linter.unusedSimpArgs false
theorem let_parts (x : LetM) : letOk x.x = (withinB 1 8 [x.kind] && (withinB 0 4 [x.group] && (withinB 1 5 [x.src, x.dst] && (withinB 0 1073741824 [x.term, x.index, x.logt, x.commit, x.size, x.at_, x.base.index, x.base.term] && (withinB 0 4611686018427387903 [x.tag] && (decide (x.ents.l.length ≤ 30) && (decide (x.bytes.l.length ≤ 131072) && (cfgOk x.base.cfg.x && x.ents.l.all entOkM)))))))) := by
  have he : (x.ents.l.map EntM.x).all entOk = x.ents.l.all entOkM := by rw [List.all_map]; rfl
  rw [Bool.eq_iff_iff]
  unfold letOk basOk topOk withinB wOk
  simp only [he, List.length_map, List.all_cons, List.all_nil, Bool.and_true, Bool.and_eq_true, decide_eq_true_eq]
  constructor
  · rintro ⟨⟨h1, h2, h3, h4, h5, h6⟩, h7, ⟨h8, h9, h10, h11⟩, ⟨h12, h13, h14, h15, h16⟩, h17⟩
    exact ⟨h8, h9, ⟨h10, h11⟩, ⟨h1, h2, h3, h4, h5, h6, h14, h15⟩, h7, h12, h13, h16, h17⟩
  · rintro ⟨h8, h9, ⟨h10, h11⟩, ⟨h1, h2, h3, h4, h5, h6, h14, h15⟩, h7, h12, h13, h16, h17⟩
    exact ⟨⟨h1, h2, h3, h4, h5, h6⟩, h7, ⟨h8, h9, h10, h11⟩, ⟨h12, h13, h14, h15, h16⟩, h17⟩
def LRightR (w : World) (l : List LetM) (i : Value) (wr : World) : Prop := ∃ k : Nat, k ≤ l.length ∧ i = .int .i64 k ∧ (∀ j (h : j < l.length), j < k → letOk (l[j]).x = true) ∧ Nw w wr
theorem lets_no {l : List LetM} {k : Nat} (hk : k < l.length) (h : letOk (l[k]).x = false) : letsOk (l.map LetM.x) = false := by
  unfold letsOk
  rw [List.all_eq_false]
  exact ⟨(l[k]).x, List.mem_map.2 ⟨_, List.getElem_mem hk, rfl⟩, by rw [h]; simp⟩
theorem lets_yes {l : List LetM} (h : ∀ j (h : j < l.length), letOk (l[j]).x = true) : letsOk (l.map LetM.x) = true := by
  unfold letsOk
  refine List.all_eq_true.2 fun x hx => ?_
  obtain ⟨y, hy, rfl⟩ := List.mem_map.1 hx
  obtain ⟨j, hj, rfl⟩ := List.mem_iff_getElem.1 hy
  exact h j hj
set_option maxRecDepth 100000 in
set_option maxHeartbeats 16000000 in
theorem lRight_any (w : World) (F : Nat → Prop) (A : Option Addr) (c : Nat) (l : List LetM) (h : Sl w F A (letsC l)) (he : ∀ x ∈ l, LetIn w F x) (hz : ∀ x ∈ l, LetSz x) (hsz : l.length ≤ 1000000000) :
    Calls Tryz.prog 35 #[.slice A l.length c] w fun e w' => e = .returned (.bool (letsOk (l.map LetM.x))) ∧ Nw w w' := by
  have HE := Lib.hid he
  have HZ := Lib.hid hz
  clear he hz
  go_enter Tryz.func35, Tryz.ntmps35
  go_wp2_with fail
  go_loopw [7] (fun i wr => LRightR w l i wr) (fun i _ => l.length - (intOf i).toNat)
  case atStart => exact ⟨0, Nat.zero_le _, rfl, fun _ _ h => by omega, Fr.refl _ _⟩
  case round =>
    obtain ⟨k, hk, rfl, hb, hq⟩ := hrel
    have HB := Lib.hid hb
    clear hb
    by_cases hlt : k < l.length
    · obtain ⟨b, o, rfl, _, _, hc⟩ := (h.fr hq (fun _ _ h => h)).let_ hlt
      have hi0 : (k : Int) < (l.length : Int) := by omega
      have hx := (HE.out _ (List.getElem_mem hlt)).nw hq
      have hz := HZ.out _ (List.getElem_mem hlt)
      have hnx : letOk (l[k]).x = true → LRightR w l (.int .i64 ((k : Int) + 1)) wr := fun hok => ⟨k + 1, hlt, by go_num, fun j hj hjk => by
        by_cases e : j < k
        · exact HB.out j hj e
        · obtain rfl : j = k := by omega
          exact hok, hq⟩
      have hno : letOk (l[k]).x = false → letsOk (l.map LetM.x) = false := lets_no hlt
      obtain ⟨x, hxe⟩ : ∃ x, l[k] = x := ⟨_, rfl⟩
      rw [hxe] at hc hx hz hnx hno
      have hparts := let_parts x
      obtain ⟨ok, hok⟩ : ∃ d, letOk x.x = d := ⟨_, rfl⟩
      rw [hok] at hparts hnx hno
      obtain ⟨G, hG⟩ : ∃ G, G = wr.heap.size := ⟨_, rfl⟩
      obtain ⟨V0, hV0⟩ : ∃ V, V = wr.alloc (.cells #[U8V 0, I64 0, I64 0, I64 0, I64 0, I64 0, I64 0, I64 0, .bool false, .slice none 0 0, I64 0, I64 0, .slice none 0 0, .slice none 0 0, .slice none 0 0, .slice none 0 0, I64 0, I64 0, I64 0, .slice none 0 0] 50) := ⟨_, rfl⟩
      have qv0 : Nw wr V0 := by rw [hV0]; exact (Fr.refl (fun _ => False) wr).alloc _
      have g0 : Blk V0 G 50 #[U8V 0, I64 0, I64 0, I64 0, I64 0, I64 0, I64 0, I64 0, .bool false, .slice none 0 0, I64 0, I64 0, .slice none 0 0, .slice none 0 0, .slice none 0 0, .slice none 0 0, I64 0, I64 0, I64 0, .slice none 0 0] := by rw [hV0, hG]; exact Blk.new _ _ _
      obtain ⟨V1, hV1⟩ : ∃ V, V = V0.setCells G 0 [U8V x.kind, I64 x.group, I64 x.src, I64 x.dst, I64 x.term, I64 x.index, I64 x.logt, I64 x.commit, .bool x.ok, .slice x.ents.a x.ents.l.length x.ents.c, I64 x.base.index, I64 x.base.term, .slice x.base.cfg.v.a x.base.cfg.v.l.length x.base.cfg.v.c, .slice x.base.cfg.o.a x.base.cfg.o.l.length x.base.cfg.o.c, .slice x.base.cfg.l.a x.base.cfg.l.l.length x.base.cfg.l.c, .slice x.base.cfg.w.a x.base.cfg.w.l.length x.base.cfg.w.c, I64 x.size, I64 x.at_, I64 x.tag, .slice x.bytes.a x.bytes.l.length x.bytes.c] := ⟨_, rfl⟩
      have g1 : Blk V1 G 50 #[U8V x.kind, I64 x.group, I64 x.src, I64 x.dst, I64 x.term, I64 x.index, I64 x.logt, I64 x.commit, .bool x.ok, .slice x.ents.a x.ents.l.length x.ents.c, I64 x.base.index, I64 x.base.term, .slice x.base.cfg.v.a x.base.cfg.v.l.length x.base.cfg.v.c, .slice x.base.cfg.o.a x.base.cfg.o.l.length x.base.cfg.o.c, .slice x.base.cfg.l.a x.base.cfg.l.l.length x.base.cfg.l.c, .slice x.base.cfg.w.a x.base.cfg.w.l.length x.base.cfg.w.c, I64 x.size, I64 x.at_, I64 x.tag, .slice x.bytes.a x.bytes.l.length x.bytes.c] := by rw [hV1]; exact Blk.setCells (l := [U8V 0, I64 0, I64 0, I64 0, I64 0, I64 0, I64 0, I64 0, .bool false, .slice none 0 0, I64 0, I64 0, .slice none 0 0, .slice none 0 0, .slice none 0 0, .slice none 0 0, I64 0, I64 0, I64 0, .slice none 0 0]) g0 0 [U8V x.kind, I64 x.group, I64 x.src, I64 x.dst, I64 x.term, I64 x.index, I64 x.logt, I64 x.commit, .bool x.ok, .slice x.ents.a x.ents.l.length x.ents.c, I64 x.base.index, I64 x.base.term, .slice x.base.cfg.v.a x.base.cfg.v.l.length x.base.cfg.v.c, .slice x.base.cfg.o.a x.base.cfg.o.l.length x.base.cfg.o.c, .slice x.base.cfg.l.a x.base.cfg.l.l.length x.base.cfg.l.c, .slice x.base.cfg.w.a x.base.cfg.w.l.length x.base.cfg.w.c, I64 x.size, I64 x.at_, I64 x.tag, .slice x.bytes.a x.bytes.l.length x.bytes.c]
      have m1 : Fr (· = G) V0 V1 := by rw [hV1]; exact (Fr.refl (· = G) _).setCells _ _
      have qv1 : Nw wr V1 := qv0.new m1 (fun b hb => by omega)
      have hth := Blk.there (l := [U8V 0, I64 0, I64 0, I64 0, I64 0, I64 0, I64 0, I64 0, .bool false, .slice none 0 0, I64 0, I64 0, .slice none 0 0, .slice none 0 0, .slice none 0 0, .slice none 0 0, I64 0, I64 0, I64 0, .slice none 0 0]) g0 0 20 (by show 0 + 20 ≤ 20; omega)
      have hone := letA_one x
      have z1 : ∀ w1, Nw V1 w1 → Calls Tryz.prog 77 #[I64 1, I64 8, .slice (some ⟨w1.heap.size, 0, none⟩) 1 1] (w1.alloc (.cells #[I64 x.kind] 3)) fun e w' => e = .returned (.bool (withinB 1 8 [x.kind])) ∧ Nw w1 w' := fun w1 f => (within_any (w1.alloc (.cells #[I64 x.kind] 3)) (· = w1.heap.size) _ 1 [x.kind] 1 8 (sl_new w1 3 [I64 x.kind] _ rfl) (by show 1 ≤ 1000000000; omega)).mono fun e w' h => ⟨h.1, ((Fr.refl (fun _ => False) w1).alloc _).tr h.2⟩
      have z2 : ∀ w1, Nw V1 w1 → Calls Tryz.prog 77 #[I64 0, I64 4, .slice (some ⟨w1.heap.size, 0, none⟩) 1 1] (w1.alloc (.cells #[I64 x.group] 3)) fun e w' => e = .returned (.bool (withinB 0 4 [x.group])) ∧ Nw w1 w' := fun w1 f => (within_any (w1.alloc (.cells #[I64 x.group] 3)) (· = w1.heap.size) _ 1 [x.group] 0 4 (sl_new w1 3 [I64 x.group] _ rfl) (by show 1 ≤ 1000000000; omega)).mono fun e w' h => ⟨h.1, ((Fr.refl (fun _ => False) w1).alloc _).tr h.2⟩
      have z3 : ∀ w1, Nw V1 w1 → Calls Tryz.prog 77 #[I64 1, I64 5, .slice (some ⟨w1.heap.size, 0, none⟩) 2 2] (w1.alloc (.cells #[I64 x.src, I64 x.dst] 3)) fun e w' => e = .returned (.bool (withinB 1 5 [x.src, x.dst])) ∧ Nw w1 w' := fun w1 f => (within_any (w1.alloc (.cells #[I64 x.src, I64 x.dst] 3)) (· = w1.heap.size) _ 2 [x.src, x.dst] 1 5 (sl_new w1 3 [I64 x.src, I64 x.dst] _ rfl) (by show 2 ≤ 1000000000; omega)).mono fun e w' h => ⟨h.1, ((Fr.refl (fun _ => False) w1).alloc _).tr h.2⟩
      have z4 : ∀ w1, Nw V1 w1 → Calls Tryz.prog 77 #[I64 0, I64 1073741824, .slice (some ⟨w1.heap.size, 0, none⟩) 8 8] (w1.alloc (.cells #[I64 x.term, I64 x.index, I64 x.logt, I64 x.commit, I64 x.size, I64 x.at_, I64 x.base.index, I64 x.base.term] 3)) fun e w' => e = .returned (.bool (withinB 0 1073741824 [x.term, x.index, x.logt, x.commit, x.size, x.at_, x.base.index, x.base.term])) ∧ Nw w1 w' := fun w1 f => (within_any (w1.alloc (.cells #[I64 x.term, I64 x.index, I64 x.logt, I64 x.commit, I64 x.size, I64 x.at_, I64 x.base.index, I64 x.base.term] 3)) (· = w1.heap.size) _ 8 [x.term, x.index, x.logt, x.commit, x.size, x.at_, x.base.index, x.base.term] 0 1073741824 (sl_new w1 3 [I64 x.term, I64 x.index, I64 x.logt, I64 x.commit, I64 x.size, I64 x.at_, I64 x.base.index, I64 x.base.term] _ rfl) (by show 8 ≤ 1000000000; omega)).mono fun e w' h => ⟨h.1, ((Fr.refl (fun _ => False) w1).alloc _).tr h.2⟩
      have z5 : ∀ w1, Nw V1 w1 → Calls Tryz.prog 77 #[I64 0, I64 4611686018427387903, .slice (some ⟨w1.heap.size, 0, none⟩) 1 1] (w1.alloc (.cells #[I64 x.tag] 3)) fun e w' => e = .returned (.bool (withinB 0 4611686018427387903 [x.tag])) ∧ Nw w1 w' := fun w1 f => (within_any (w1.alloc (.cells #[I64 x.tag] 3)) (· = w1.heap.size) _ 1 [x.tag] 0 4611686018427387903 (sl_new w1 3 [I64 x.tag] _ rfl) (by show 1 ≤ 1000000000; omega)).mono fun e w' h => ⟨h.1, ((Fr.refl (fun _ => False) w1).alloc _).tr h.2⟩
      have z6 : ∀ w1, Nw V1 w1 → Calls Tryz.prog 78 #[.agg #[.slice x.base.cfg.v.a x.base.cfg.v.l.length x.base.cfg.v.c, .slice x.base.cfg.o.a x.base.cfg.o.l.length x.base.cfg.o.c, .slice x.base.cfg.l.a x.base.cfg.l.l.length x.base.cfg.l.c, .slice x.base.cfg.w.a x.base.cfg.w.l.length x.base.cfg.w.c]] w1 fun e w' => e = .returned (.bool (cfgOk x.base.cfg.x)) ∧ Nw w1 w' := fun w1 f => jcfg w1 F x.base.cfg (hx.cfg.nw (qv1.tr f)) hz.cfg
      have z7 : ∀ w1, Nw V1 w1 → Calls Tryz.prog 79 #[.slice x.ents.a x.ents.l.length x.ents.c, .func (.func 80) #[] #[]] w1 fun e w' => e = .returned (.bool (!x.ents.l.all entOkM)) ∧ Nw w1 w' := fun w1 f => ents_contains w1 F _ _ x.ents.l (hx.ents.nw (qv1.tr f)).sl (by have := hz.ents; omega) (fun e he => (hx.each e he).nw (qv1.tr f)) hz.each
      obtain ⟨d6, hd6⟩ : ∃ d, cfgOk x.base.cfg.x = d := ⟨_, rfl⟩
      obtain ⟨d7, hd7⟩ : ∃ d, x.ents.l.all entOkM = d := ⟨_, rfl⟩
      simp only [hd6] at z6
      simp only [hd7] at z7
      obtain ⟨d1, hd1⟩ : ∃ d, withinB 1 8 [x.kind] = d := ⟨_, rfl⟩
      simp only [hd1] at z1
      have Z1 := Lib.hid z1
      obtain ⟨d2, hd2⟩ : ∃ d, withinB 0 4 [x.group] = d := ⟨_, rfl⟩
      simp only [hd2] at z2
      have Z2 := Lib.hid z2
      obtain ⟨d3, hd3⟩ : ∃ d, withinB 1 5 [x.src, x.dst] = d := ⟨_, rfl⟩
      simp only [hd3] at z3
      have Z3 := Lib.hid z3
      obtain ⟨d4, hd4⟩ : ∃ d, withinB 0 1073741824 [x.term, x.index, x.logt, x.commit, x.size, x.at_, x.base.index, x.base.term] = d := ⟨_, rfl⟩
      simp only [hd4] at z4
      have Z4 := Lib.hid z4
      obtain ⟨d5, hd5⟩ : ∃ d, withinB 0 4611686018427387903 [x.tag] = d := ⟨_, rfl⟩
      simp only [hd5] at z5
      have Z5 := Lib.hid z5
      rw [hd1, hd2, hd3, hd4, hd5, hd6, hd7] at hparts
      have hkd := hx.kind
      have hel : x.ents.l.length ≤ 1000000 := hz.ents
      have hbl : x.bytes.l.length ≤ 1000000 := hz.bytes
      have HG := Lib.hid hG
      have HV0 := Lib.hid hV0
      have HV1 := Lib.hid hV1
      have HP := Lib.hid hparts
      have HNX := Lib.hid hnx
      have HNO := Lib.hid hno
      have Z6 := Lib.hid z6
      have Z7 := Lib.hid z7
      have HOK := Lib.hid hok
      clear hG hV0 hV1 m1 g0 qv0 hparts hnx hno hok hd6 hd7 hd1 z1 hd2 z2 hd3 z3 hd4 z4 hd5 z5 z6 z7 hxe hx hz
      go_upto_region 4 with (first | (refine wl_load_cells rfl 50 _ rfl b (o + k * 20) rfl [U8V x.kind, I64 x.group, I64 x.src, I64 x.dst, I64 x.term, I64 x.index, I64 x.logt, I64 x.commit, .bool x.ok, .slice x.ents.a x.ents.l.length x.ents.c, I64 x.base.index, I64 x.base.term, .slice x.base.cfg.v.a x.base.cfg.v.l.length x.base.cfg.v.c, .slice x.base.cfg.o.a x.base.cfg.o.l.length x.base.cfg.o.c, .slice x.base.cfg.l.a x.base.cfg.l.l.length x.base.cfg.l.c, .slice x.base.cfg.w.a x.base.cfg.w.l.length x.base.cfg.w.c, I64 x.size, I64 x.at_, I64 x.tag, .slice x.bytes.a x.bytes.l.length x.bytes.c] _ hc Tryz.underlying50 rfl (by kernel_rfl) ?_) | (rw [← HG.out, ← HV0.out]; refine wpList_store_mid rfl 50 _ _ rfl G 0 #[U8V x.kind, I64 x.group, I64 x.src, I64 x.dst, I64 x.term, I64 x.index, I64 x.logt, I64 x.commit, .bool x.ok, .slice x.ents.a x.ents.l.length x.ents.c, I64 x.base.index, I64 x.base.term, .slice x.base.cfg.v.a x.base.cfg.v.l.length x.base.cfg.v.c, .slice x.base.cfg.o.a x.base.cfg.o.l.length x.base.cfg.o.c, .slice x.base.cfg.l.a x.base.cfg.l.l.length x.base.cfg.l.c, .slice x.base.cfg.w.a x.base.cfg.w.l.length x.base.cfg.w.c, I64 x.size, I64 x.at_, I64 x.tag, .slice x.bytes.a x.bytes.l.length x.bytes.c] rfl rfl hth (by kernel_rfl) hone ?_))
      rw [← HV1.out]
      have gg := g1.fr (Fr.refl (fun _ => False) V1) (fun h => h)
      have k0 : V1.cell? ⟨G, 0, none⟩ = some (U8V x.kind) := by simpa using gg.cell 0
      clear gg
      have hcv : IntKind.i64.wrap x.kind = x.kind := IntWalk.i64_in _ (by omega)
      go_wp2_with fail
      refine (Z1.out _ (Fr.refl (fun _ => False) V1)).mono ?_
      rintro e v1 ⟨rfl, r1⟩
      have Q1 : Nw V1 v1 := (Fr.refl (fun _ => False) V1).tr r1
      clear k0
      cases d1 with
      | false =>
        go_wp2_with fail
        go_ret
        exact ⟨ret_eq (congrArg Value.bool (HNO.out (by rw [HP.out]; simp)).symm), (hq.tr qv1).tr Q1⟩
      | true =>
      have gg := g1.fr Q1 (fun h => h)
      have k1 : v1.cell? ⟨G, 1, none⟩ = some (I64 x.group) := by simpa using gg.cell 1
      clear gg
      go_wp2_with fail
      refine (Z2.out _ Q1).mono ?_
      rintro e v2 ⟨rfl, r2⟩
      have Q2 : Nw V1 v2 := Q1.tr r2
      clear k1
      cases d2 with
      | false =>
        go_wp2_with fail
        go_ret
        exact ⟨ret_eq (congrArg Value.bool (HNO.out (by rw [HP.out]; simp)).symm), (hq.tr qv1).tr Q2⟩
      | true =>
      have gg := g1.fr Q2 (fun h => h)
      have k2 : v2.cell? ⟨G, 2, none⟩ = some (I64 x.src) := by simpa using gg.cell 2
      have k3 : v2.cell? ⟨G, 3, none⟩ = some (I64 x.dst) := by simpa using gg.cell 3
      clear gg
      go_wp2_with fail
      refine (Z3.out _ Q2).mono ?_
      rintro e v3 ⟨rfl, r3⟩
      have Q3 : Nw V1 v3 := Q2.tr r3
      clear k2 k3
      cases d3 with
      | false =>
        go_wp2_with fail
        go_ret
        exact ⟨ret_eq (congrArg Value.bool (HNO.out (by rw [HP.out]; simp)).symm), (hq.tr qv1).tr Q3⟩
      | true =>
      have gg := g1.fr Q3 (fun h => h)
      have k4 : v3.cell? ⟨G, 4, none⟩ = some (I64 x.term) := by simpa using gg.cell 4
      have k5 : v3.cell? ⟨G, 5, none⟩ = some (I64 x.index) := by simpa using gg.cell 5
      have k6 : v3.cell? ⟨G, 6, none⟩ = some (I64 x.logt) := by simpa using gg.cell 6
      have k7 : v3.cell? ⟨G, 7, none⟩ = some (I64 x.commit) := by simpa using gg.cell 7
      have k16 : v3.cell? ⟨G, 16, none⟩ = some (I64 x.size) := by simpa using gg.cell 16
      have k17 : v3.cell? ⟨G, 17, none⟩ = some (I64 x.at_) := by simpa using gg.cell 17
      have k10 : v3.cell? ⟨G, 10, none⟩ = some (I64 x.base.index) := by simpa using gg.cell 10
      have k11 : v3.cell? ⟨G, 11, none⟩ = some (I64 x.base.term) := by simpa using gg.cell 11
      clear gg
      go_wp2_with fail
      refine (Z4.out _ Q3).mono ?_
      rintro e v4 ⟨rfl, r4⟩
      have Q4 : Nw V1 v4 := Q3.tr r4
      clear k4 k5 k6 k7 k16 k17 k10 k11
      cases d4 with
      | false =>
        go_wp2_with fail
        go_ret
        exact ⟨ret_eq (congrArg Value.bool (HNO.out (by rw [HP.out]; simp)).symm), (hq.tr qv1).tr Q4⟩
      | true =>
      have gg := g1.fr Q4 (fun h => h)
      have k18 : v4.cell? ⟨G, 18, none⟩ = some (I64 x.tag) := by simpa using gg.cell 18
      clear gg
      go_wp2_with fail
      refine (Z5.out _ Q4).mono ?_
      rintro e v5 ⟨rfl, r5⟩
      have Q5 : Nw V1 v5 := Q4.tr r5
      clear k18
      cases d5 with
      | false =>
        go_wp2_with fail
        go_ret
        exact ⟨ret_eq (congrArg Value.bool (HNO.out (by rw [HP.out]; simp)).symm), (hq.tr qv1).tr Q5⟩
      | true =>
      have gg := g1.fr Q5 (fun h => h)
      have k9 : v5.cell? ⟨G, 9, none⟩ = some (.slice x.ents.a x.ents.l.length x.ents.c) := by simpa using gg.cell 9
      have k19 : v5.cell? ⟨G, 19, none⟩ = some (.slice x.bytes.a x.bytes.l.length x.bytes.c) := by simpa using gg.cell 19
      have k12 : v5.cell? ⟨G, 12, none⟩ = some (.slice x.base.cfg.v.a x.base.cfg.v.l.length x.base.cfg.v.c) := by simpa using gg.cell 12
      have k13 : v5.cell? ⟨G, 13, none⟩ = some (.slice x.base.cfg.o.a x.base.cfg.o.l.length x.base.cfg.o.c) := by simpa using gg.cell 13
      have k14 : v5.cell? ⟨G, 14, none⟩ = some (.slice x.base.cfg.l.a x.base.cfg.l.l.length x.base.cfg.l.c) := by simpa using gg.cell 14
      have k15 : v5.cell? ⟨G, 15, none⟩ = some (.slice x.base.cfg.w.a x.base.cfg.w.l.length x.base.cfg.w.c) := by simpa using gg.cell 15
      clear gg
      by_cases h30 : x.ents.l.length ≤ 30
      case neg =>
        have g2 : (30 : Int) < (x.ents.l.length : Int) := by omega
        have HN := Lib.hid (decide_eq_false h30)
        go_wp2_with fail
        go_ret
        exact ⟨ret_eq (congrArg Value.bool (HNO.out (by rw [HP.out, HN.out]; simp)).symm), (hq.tr qv1).tr Q5⟩
      have h30i : (x.ents.l.length : Int) ≤ 30 := by omega
      have Hh30 := Lib.hid (decide_eq_true h30)
      by_cases h13 : x.bytes.l.length ≤ 131072
      case neg =>
        have g2 : (131072 : Int) < (x.bytes.l.length : Int) := by omega
        have HN := Lib.hid (decide_eq_false h13)
        go_wp2_with fail
        go_ret
        exact ⟨ret_eq (congrArg Value.bool (HNO.out (by rw [HP.out, HN.out]; simp)).symm), (hq.tr qv1).tr Q5⟩
      have h13i : (x.bytes.l.length : Int) ≤ 131072 := by omega
      have Hh13 := Lib.hid (decide_eq_true h13)
      go_wp2_with fail
      refine (Z6.out _ Q5).mono ?_
      rintro e v6 ⟨rfl, r6⟩
      have Q6 : Nw V1 v6 := Q5.tr r6
      clear k9 k19 k12 k13 k14 k15
      cases d6 with
      | false =>
        go_wp2_with fail
        go_ret
        exact ⟨ret_eq (congrArg Value.bool (HNO.out (by rw [HP.out]; simp)).symm), (hq.tr qv1).tr Q6⟩
      | true =>
      have gg := g1.fr Q6 (fun h => h)
      have k9 : v6.cell? ⟨G, 9, none⟩ = some (.slice x.ents.a x.ents.l.length x.ents.c) := by simpa using gg.cell 9
      clear gg
      go_wp2_with fail
      refine (Z7.out _ Q6).mono ?_
      rintro e v7 ⟨rfl, r7⟩
      have Q7 : Nw V1 v7 := Q6.tr r7
      cases d7 with
      | false =>
        go_wp2_with fail
        go_ret
        exact ⟨ret_eq (congrArg Value.bool (HNO.out (by rw [HP.out]; simp)).symm), (hq.tr qv1).tr Q7⟩
      | true =>
        go_wp2_with fail
        go_roundw
        case rel =>
          obtain ⟨kk, a1, a2, a3, a4⟩ := HNX.out (by rw [HP.out, Hh30.out, Hh13.out]; rfl)
          exact ⟨kk, a1, a2, a3, (hq.tr qv1).tr Q7⟩
        case measure => simp [intOf]; omega
    · obtain rfl : l.length = k := by omega
      go_wp2_with fail
      go_ret
      exact ⟨ret_eq (congrArg Value.bool (lets_yes (fun j hj => HB.out j hj hj)).symm), hq⟩
end Go.Proofs.YtippdjaakcgeoaaGreat

namespace Go.Proofs.YtippdjaakcgeoaaGreat
open Go Go.RowKit
set_option linter.unusedVariables false
set_option linter.unusedSimpArgs false
def sendR (w : World) (O I : Nat → Prop) (Y : NetM) (xs : List LetM) (v i : Value) (wr : World) : Prop :=
  ∃ (k : Nat) (O2 I2 : Nat → Prop) (Y2 : NetM), k ≤ xs.length ∧ i = .int .i64 k ∧ v = I64 ((sendP Y.p ((xs.take k).map LetM.x)).2 : Nat) ∧ IsNet wr O2 I2 Y2 ∧ Y2.g = Y.g ∧ Y2.m = Y.m ∧ Y2.p = (sendP Y.p ((xs.take k).map LetM.x)).1 ∧ Y2.s ≤ Y.s + k ∧ Fr O w wr ∧ (∀ j, O2 j → O j ∨ w.heap.size ≤ j) ∧ ∀ j, I2 j → I j ∨ w.heap.size ≤ j
set_option maxRecDepth 100000 in
set_option maxHeartbeats 8000000 in
theorem netSend_any (w : World) (O I F : Nat → Prop) (Y : NetM) (h : IsNet w O I Y) (A : Option Addr) (c : Nat) (xs : List LetM) (hsl : Sl w F A (letsC xs)) (he : ∀ x ∈ xs, LetIn w F x) (hz : ∀ x ∈ xs, LetSz x) (hsz : xs.length ≤ 10000) (hFO : ∀ k, F k → ¬ O k) (hYs : Y.s < 900000000) :
    Calls Tryz.prog 19 #[.pointer (some ⟨Y.g, 0, none⟩), .slice A xs.length c] w fun e w' => e = .returned (I64 ((sendP Y.p (xs.map LetM.x)).2 : Nat)) ∧ ∃ O' I' Y', IsNet w' O' I' Y' ∧ Y'.g = Y.g ∧ Y'.m = Y.m ∧ Y'.p = (sendP Y.p (xs.map LetM.x)).1 ∧ Y'.s ≤ Y.s + xs.length ∧ Fr O w w' ∧ (∀ k, O' k → O k ∨ w.heap.size ≤ k) ∧ ∀ k, I' k → I k ∨ w.heap.size ≤ k := by
  have HE := Lib.hid he
  have HZ := Lib.hid hz
  clear he hz
  go_enter Tryz.func19, Tryz.ntmps19
  go_wp2_with fail
  go_loopw [5, 11] (fun v i wr => sendR w O I Y xs v i wr) (fun _ i _ => xs.length - (intOf i).toNat)
  case atStart => exact ⟨0, O, I, Y, Nat.zero_le _, rfl, rfl, h, rfl, rfl, rfl, Nat.le_refl _, Fr.refl _ _, fun _ h => .inl h, fun _ h => .inl h⟩
  case round =>
    obtain ⟨k, O2, I2, Y2, hk, rfl, rfl, hN, eg, em, hp, hs2, hq, hO2, hI2⟩ := hrel
    have HP := Lib.hid hp
    clear hp
    have hle := sendP_le Y.p ((xs.take k).map LetM.x)
    by_cases hlt : k < xs.length
    · obtain ⟨b, o, rfl, _, _, hc⟩ := (hsl.fr hq hFO).let_ hlt
      have hi0 : (k : Int) < (xs.length : Int) := by omega
      have hfO : ∀ j, F j → ¬ O j := hFO
      have x1 := (HE.out _ (List.getElem_mem hlt)).fr hq hFO
      have z1 := HZ.out _ (List.getElem_mem hlt)
      obtain ⟨x, hx⟩ : ∃ x, xs[k] = x := ⟨_, rfl⟩
      rw [hx] at x1 z1 hc
      have HX := Lib.hid hx
      clear hx
      obtain ⟨G, hG⟩ : ∃ G, G = wr.heap.size := ⟨_, rfl⟩
      obtain ⟨V0, hV0⟩ : ∃ V, V = wr.alloc (.cells #[U8V 0, I64 0, I64 0, I64 0, I64 0, I64 0, I64 0, I64 0, .bool false, .slice none 0 0, I64 0, I64 0, .slice none 0 0, .slice none 0 0, .slice none 0 0, .slice none 0 0, I64 0, I64 0, I64 0, .slice none 0 0] 50) := ⟨_, rfl⟩
      have qv0 : Nw wr V0 := by rw [hV0]; exact (Fr.refl (fun _ => False) wr).alloc _
      have g0 : Blk V0 G 50 #[U8V 0, I64 0, I64 0, I64 0, I64 0, I64 0, I64 0, I64 0, .bool false, .slice none 0 0, I64 0, I64 0, .slice none 0 0, .slice none 0 0, .slice none 0 0, .slice none 0 0, I64 0, I64 0, I64 0, .slice none 0 0] := by rw [hV0, hG]; exact Blk.new _ _ _
      obtain ⟨V1, hV1⟩ : ∃ V, V = V0.setCells G 0 [U8V x.kind, I64 x.group, I64 x.src, I64 x.dst, I64 x.term, I64 x.index, I64 x.logt, I64 x.commit, .bool x.ok, .slice x.ents.a x.ents.l.length x.ents.c, I64 x.base.index, I64 x.base.term, .slice x.base.cfg.v.a x.base.cfg.v.l.length x.base.cfg.v.c, .slice x.base.cfg.o.a x.base.cfg.o.l.length x.base.cfg.o.c, .slice x.base.cfg.l.a x.base.cfg.l.l.length x.base.cfg.l.c, .slice x.base.cfg.w.a x.base.cfg.w.l.length x.base.cfg.w.c, I64 x.size, I64 x.at_, I64 x.tag, .slice x.bytes.a x.bytes.l.length x.bytes.c] := ⟨_, rfl⟩
      have g1 : Blk V1 G 50 #[U8V x.kind, I64 x.group, I64 x.src, I64 x.dst, I64 x.term, I64 x.index, I64 x.logt, I64 x.commit, .bool x.ok, .slice x.ents.a x.ents.l.length x.ents.c, I64 x.base.index, I64 x.base.term, .slice x.base.cfg.v.a x.base.cfg.v.l.length x.base.cfg.v.c, .slice x.base.cfg.o.a x.base.cfg.o.l.length x.base.cfg.o.c, .slice x.base.cfg.l.a x.base.cfg.l.l.length x.base.cfg.l.c, .slice x.base.cfg.w.a x.base.cfg.w.l.length x.base.cfg.w.c, I64 x.size, I64 x.at_, I64 x.tag, .slice x.bytes.a x.bytes.l.length x.bytes.c] := by rw [hV1]; exact Blk.setCells (l := [U8V 0, I64 0, I64 0, I64 0, I64 0, I64 0, I64 0, I64 0, .bool false, .slice none 0 0, I64 0, I64 0, .slice none 0 0, .slice none 0 0, .slice none 0 0, .slice none 0 0, I64 0, I64 0, I64 0, .slice none 0 0]) g0 0 [U8V x.kind, I64 x.group, I64 x.src, I64 x.dst, I64 x.term, I64 x.index, I64 x.logt, I64 x.commit, .bool x.ok, .slice x.ents.a x.ents.l.length x.ents.c, I64 x.base.index, I64 x.base.term, .slice x.base.cfg.v.a x.base.cfg.v.l.length x.base.cfg.v.c, .slice x.base.cfg.o.a x.base.cfg.o.l.length x.base.cfg.o.c, .slice x.base.cfg.l.a x.base.cfg.l.l.length x.base.cfg.l.c, .slice x.base.cfg.w.a x.base.cfg.w.l.length x.base.cfg.w.c, I64 x.size, I64 x.at_, I64 x.tag, .slice x.bytes.a x.bytes.l.length x.bytes.c]
      have m1 : Fr (· = G) V0 V1 := by rw [hV1]; exact (Fr.refl (· = G) _).setCells _ _
      have qv1 : Nw wr V1 := qv0.new m1 (fun b hb => by omega)
      have hth := Blk.there (l := [U8V 0, I64 0, I64 0, I64 0, I64 0, I64 0, I64 0, I64 0, .bool false, .slice none 0 0, I64 0, I64 0, .slice none 0 0, .slice none 0 0, .slice none 0 0, .slice none 0 0, I64 0, I64 0, I64 0, .slice none 0 0]) g0 0 20 (by show 0 + 20 ≤ 20; omega)
      have hone := letA_one x
      have HG := Lib.hid hG
      have HV0 := Lib.hid hV0
      have HV1 := Lib.hid hV1
      clear hG hV0 hV1 m1 g0 qv0
      go_upto_region 5 with (first | (refine wl_load_cells rfl 50 _ rfl b (o + k * 20) rfl _ _ hc Tryz.underlying50 rfl (by kernel_rfl) ?_) | (rw [← HG.out, ← HV0.out]; refine wpList_store_mid rfl 50 _ _ rfl G 0 #[U8V x.kind, I64 x.group, I64 x.src, I64 x.dst, I64 x.term, I64 x.index, I64 x.logt, I64 x.commit, .bool x.ok, .slice x.ents.a x.ents.l.length x.ents.c, I64 x.base.index, I64 x.base.term, .slice x.base.cfg.v.a x.base.cfg.v.l.length x.base.cfg.v.c, .slice x.base.cfg.o.a x.base.cfg.o.l.length x.base.cfg.o.c, .slice x.base.cfg.l.a x.base.cfg.l.l.length x.base.cfg.l.c, .slice x.base.cfg.w.a x.base.cfg.w.l.length x.base.cfg.w.c, I64 x.size, I64 x.at_, I64 x.tag, .slice x.bytes.a x.bytes.l.length x.bytes.c] rfl rfl hth (by kernel_rfl) hone ?_; rw [← HV1.out]))
      have c2 : V1.cell? ⟨G, 2, none⟩ = some (I64 x.src) := by simpa using g1.cell 2
      have c3 : V1.cell? ⟨G, 3, none⟩ = some (I64 x.dst) := by simpa using g1.cell 3
      obtain ⟨D, hD⟩ : ∃ D, D = V1.heap.size := ⟨_, rfl⟩
      obtain ⟨W2, hW2⟩ : ∃ W, W = V1.alloc (.cells #[I64 x.src, I64 x.dst] 90) := ⟨_, rfl⟩
      have q2 : Nw V1 W2 := by rw [hW2]; exact (Fr.refl (fun _ => False) _).alloc _
      have bD : Blk W2 D 90 #[I64 x.src, I64 x.dst] := by rw [hW2, hD]; exact Blk.new _ _ _
      have g2 := g1.fr q2 (fun h => h)
      have N2 := (hN.nw qv1).nw q2
      have x2 := (x1.nw qv1).nw q2
      have HD := Lib.hid hD
      have HW2 := Lib.hid hW2
      clear hD hW2 hc
      go_upto_region 6 with (fail)
      rw [← HW2.out, ← HD.out]
      have N2g := N2.blk
      rw [eg, em] at N2g
      have hxs : ∀ wz, Nw W2 wz → ∀ a9, Sl wz (· = a9) (some ⟨a9, 0, none⟩) (letL x) → Calls Tryz.prog 35 #[.slice (some ⟨a9, 0, none⟩) 1 1] wz fun e w' => e = .returned (.bool (letOk x.x)) ∧ Nw wz w' := fun wz q a9 h9 =>
        (lRight_any wz (fun _ => True) (some ⟨a9, 0, none⟩) 1 [x] (by rw [letsC_one]; exact h9.mono (fun _ _ _ => trivial)) (fun y hy => by rw [List.mem_singleton.1 hy]; exact (x2.nw q).mono (fun _ _ _ => trivial)) (fun y hy => by rw [List.mem_singleton.1 hy]; exact z1) (by simp)).mono fun e w' h => ⟨by rw [h.1]; simp [letsOk], h.2⟩
      obtain ⟨d, hd⟩ : ∃ d, d = letOk x.x := ⟨_, rfl⟩
      rw [← hd] at hxs
      have HDD := Lib.hid hd
      clear hd
      refine wp_region_bld 4 W2 (letL x) (by kernel_rfl) (by kernel_rfl) (Fr.refl _ _) ?_
      apply wpEffT_cons
      focus
        intro B L wz hL hD hC
        refine .inl ⟨by rfl, ?_⟩
        unfold effAt
        go_simp
        exact ⟨rfl, hC.keep (by kernel_rfl) hD (by rfl)⟩
      simp only [Act.put, List.setIfInBounds_toArray, List.set_cons_zero, List.set_cons_succ]
      apply wpEffT_cons
      focus
        intro B L wz hL hD hC
        refine .inl ⟨by rfl, ?_⟩
        unfold effAt
        go_simp
        refine (netKnown_yes wz Y.g Y.m (N2g.fr hC.2.1 (fun h => h))).mono ?_
        rintro e w9 ⟨rfl, rfl⟩
        exact ⟨rfl, hC.keep (by kernel_rfl) hD (by rfl)⟩
      simp only [Act.put, List.setIfInBounds_toArray, List.set_cons_zero, List.set_cons_succ]
      apply wpEffT_cons
      focus
        intro B L wz hL hD hC
        refine .inl ⟨by rfl, ?_⟩
        unfold effAt
        go_simp
        exact ⟨rfl, hC.keep (by kernel_rfl) hD (by rfl)⟩
      simp only [Act.put, List.setIfInBounds_toArray, List.set_cons_zero, List.set_cons_succ]
      apply wpEffT_cons
      focus
        intro B L wz hL hD hC
        have hb9 := g2.fr hC.2.1 (fun h => h)
        refine .inl ⟨by rfl, ?_⟩
        exact effAt_cells 50 _ rfl G 0 rfl (letL x) _ (Blk.cells_at (l := letL x) hb9 0) Tryz.underlying50 rfl (by kernel_rfl) (hC.keep (by kernel_rfl) hD (by rfl))
      simp only [Act.put, List.setIfInBounds_toArray, List.set_cons_zero, List.set_cons_succ]
      refine wpEffT_free (fun b => .slice (some ⟨b, 0, none⟩) 1 1) ?_ ?_
      focus
        intro B L wz hL hD hC
        refine .inl ⟨by rfl, ?_⟩
        unfold effAtT
        go_simp
        exact ⟨wz.heap.size, rfl, hC.build (w' := wz.alloc (.cells (letA x) 50)) ((Fr.refl (fun _ => False) wz).alloc _) (by kernel_rfl) hD (sl_new wz 50 (letL x) _ rfl)⟩
      simp only [Act.put, List.setIfInBounds_toArray, List.set_cons_zero, List.set_cons_succ]
      apply wpEffT_cons
      focus
        intro B L wz hL hD hC
        have h4 := hC.2.2 (hD 4 (by kernel_rfl))
        refine .inl ⟨by rfl, ?_⟩
        unfold effAt
        go_simp
        refine (hxs wz hC.2.1 _ h4).mono ?_
        rintro e w9 ⟨rfl, q9⟩
        exact ⟨rfl, hC.step q9 (by kernel_rfl) hD (by rfl)⟩
      simp only [Act.put, List.setIfInBounds_toArray, List.set_cons_zero, List.set_cons_succ]
      cases d
      case false =>
        apply wpEffT_cons
        focus
          intro B L wz hL hD hC
          refine .inl ⟨by rfl, ?_⟩
          unfold effAt
          go_simp
          exact ⟨rfl, hC.keep (by kernel_rfl) hD (by rfl)⟩
        simp only [Act.put, List.setIfInBounds_toArray, List.set_cons_zero, List.set_cons_succ]
        apply wpEffT_cons
        focus
          intro B L wz hL hD hC
          refine .inl ⟨by rfl, ?_⟩
          unfold effAt
          go_simp
          exact ⟨rfl, hC.keep (by kernel_rfl) hD (by rfl)⟩
        simp only [Act.put, List.setIfInBounds_toArray, List.set_cons_zero, List.set_cons_succ]
        apply wpEffT_cons
        focus
          intro B L wz hL hD hC
          exact .inr ⟨by rfl, rfl, hC.keep (by kernel_rfl) hD (by rfl)⟩
        simp only [Act.put, List.setIfInBounds_toArray, List.set_cons_zero, List.set_cons_succ]
        apply wpEffT_cons
        focus
          intro B L wz hL hD hC
          exact .inr ⟨by rfl, rfl, hC.keep (by kernel_rfl) hD (by rfl)⟩
        simp only [Act.put, List.setIfInBounds_toArray, List.set_cons_zero, List.set_cons_succ]
        apply wpEffT_cons
        focus
          intro B L wz hL hD hC
          exact .inr ⟨by rfl, rfl, hC.keep (by kernel_rfl) hD (by rfl)⟩
        simp only [Act.put, List.setIfInBounds_toArray, List.set_cons_zero, List.set_cons_succ]
        apply wpEffT_cons
        focus
          intro B L wz hL hD hC
          exact .inr ⟨by rfl, rfl, hC.keep (by kernel_rfl) hD (by rfl)⟩
        simp only [Act.put, List.setIfInBounds_toArray, List.set_cons_zero, List.set_cons_succ]
        apply wpEffT_cons
        focus
          intro B L wz hL hD hC
          exact .inr ⟨by rfl, rfl, hC.keep (by kernel_rfl) hD (by rfl)⟩
        simp only [Act.put, List.setIfInBounds_toArray, List.set_cons_zero, List.set_cons_succ]
        apply wpEffT_cons
        focus
          intro B L wz hL hD hC
          exact .inr ⟨by rfl, rfl, hC.keep (by kernel_rfl) hD (by rfl)⟩
        simp only [Act.put, List.setIfInBounds_toArray, List.set_cons_zero, List.set_cons_succ]
        apply wpEffT_cons
        focus
          intro B L wz hL hD hC
          exact .inr ⟨by rfl, rfl, hC.keep (by kernel_rfl) hD (by rfl)⟩
        simp only [Act.put, List.setIfInBounds_toArray, List.set_cons_zero, List.set_cons_succ]
        apply wpEffT_cons
        focus
          intro B L wz hL hD hC
          exact .inr ⟨by rfl, rfl, hC.keep (by kernel_rfl) hD (by rfl)⟩
        simp only [Act.put, List.setIfInBounds_toArray, List.set_cons_zero, List.set_cons_succ]
        apply wpEffT_cons
        focus
          intro B L wz hL hD hC
          exact .inr ⟨by rfl, rfl, hC.keep (by kernel_rfl) hD (by rfl)⟩
        simp only [Act.put, List.setIfInBounds_toArray, List.set_cons_zero, List.set_cons_succ]
        apply wpEffT_cons
        focus
          intro B L wz hL hD hC
          refine .inl ⟨by rfl, ?_⟩
          unfold effAt
          go_simp
          exact ⟨rfl, hC.keep (by kernel_rfl) hD (by rfl)⟩
        simp only [Act.put, List.setIfInBounds_toArray, List.set_cons_zero, List.set_cons_succ]
        refine wpEffT_nil fun B wz hC => ?_
        have q6 := hC.2.1
        clear hC hxs
        go_wp2_with fail
        go_roundw
        case rel =>
          have hst : sendP Y.p ((xs.take (k + 1)).map LetM.x) = sendP Y.p ((xs.take k).map LetM.x) := by
            rw [List.take_succ_eq_append_getElem hlt, HX.out, List.map_append, List.map_singleton, sendP_snoc]
            unfold sendStep
            rw [if_neg]
            rintro ⟨h8, _⟩
            rw [← HDD.out] at h8
            cases h8
          exact ⟨k + 1, O2, I2, Y2, by omega, by go_num, by rw [hst, List.map_take], N2.nw q6, eg, em, by rw [hst]; exact HP.out, by omega, hq.tr (Nw.on ((qv1.tr q2).tr q6)), hO2, hI2⟩
        case measure => simp [intOf]; omega
      case true =>
        have hwf : NmWf (x.src, x.dst) := way_wf (x := x.x) HDD.out.symm
        obtain ⟨A0, c0, l0, hLO⟩ := N2.link_or (x.src, x.dst)
        obtain ⟨n0, hn0⟩ : ∃ n0, n0 = l0.length := ⟨_, rfl⟩
        have hev : ((Y2.f (x.src, x.dst)).map Ls.v).getD nilLets = .slice A0 n0 c0 := by rw [hn0]; exact hLO.val
        have HEV := Lib.hid hev
        have HN0 := Lib.hid hn0
        have hen : n0 = (Y2.p (x.src, x.dst)).length := by rw [hn0, ← hLO.p, List.length_map]
        have HEN := Lib.hid hen
        clear hev hn0 hen
        apply wpEffT_cons
        focus
          intro B L wz hL hD hC
          refine .inl ⟨by rfl, ?_⟩
          unfold effAt
          go_simp
          exact ⟨rfl, hC.keep (by kernel_rfl) hD (by rfl)⟩
        simp only [Act.put, List.setIfInBounds_toArray, List.set_cons_zero, List.set_cons_succ]
        apply wpEffT_cons
        focus
          intro B L wz hL hD hC
          refine .inl ⟨by rfl, ?_⟩
          unfold effAt
          go_simp
          exact ⟨rfl, hC.keep (by kernel_rfl) hD (by rfl)⟩
        simp only [Act.put, List.setIfInBounds_toArray, List.set_cons_zero, List.set_cons_succ]
        apply wpEffT_cons
        focus
          intro B L wz hL hD hC
          refine .inl ⟨by rfl, ?_⟩
          unfold effAt
          go_simp
          exact ⟨rfl, hC.keep (by kernel_rfl) hD (by rfl)⟩
        simp only [Act.put, List.setIfInBounds_toArray, List.set_cons_zero, List.set_cons_succ]
        apply wpEffT_cons
        focus
          intro B L wz hL hD hC
          refine .inl ⟨by rfl, ?_⟩
          unfold effAt
          go_simp
          exact ⟨rfl, hC.keep (by kernel_rfl) hD (by rfl)⟩
        simp only [Act.put, List.setIfInBounds_toArray, List.set_cons_zero, List.set_cons_succ]
        apply wpEffT_cons
        focus
          intro B L wz hL hD hC
          refine .inl ⟨by rfl, ?_⟩
          unfold effAt
          go_simp
          exact ⟨rfl, hC.keep (by kernel_rfl) hD (by rfl)⟩
        simp only [Act.put, List.setIfInBounds_toArray, List.set_cons_zero, List.set_cons_succ]
        apply wpEffT_cons
        focus
          intro B L wz hL hD hC
          refine .inl ⟨by rfl, ?_⟩
          unfold effAt
          go_simp
          exact ⟨rfl, hC.keep (by kernel_rfl) hD (by rfl)⟩
        simp only [Act.put, List.setIfInBounds_toArray, List.set_cons_zero, List.set_cons_succ]
        apply wpEffT_cons
        focus
          intro B L wz hL hD hC
          have hg9 : wz.cell? ⟨Y.g, 0, none⟩ = some (.map (some Y.m)) := by simpa using (N2g.fr hC.2.1 (fun h => h)).cell 0
          refine .inl ⟨by rfl, ?_⟩
          unfold effAt
          go_simp
          exact ⟨rfl, hC.keep (by kernel_rfl) hD (by rfl)⟩
        simp only [Act.put, List.setIfInBounds_toArray, List.set_cons_zero, List.set_cons_succ]
        apply wpEffT_cons
        focus
          intro B L wz hL hD hC
          have hb9 := bD.fr hC.2.1 (fun h => h)
          refine .inl ⟨by rfl, ?_⟩
          exact effAt_cells 90 _ rfl D 0 rfl [I64 x.src, I64 x.dst] _ (Blk.cells_at (l := [I64 x.src, I64 x.dst]) hb9 0) Tryz.underlying90 rfl (by kernel_rfl) (hC.keep (by kernel_rfl) hD (by rfl))
        simp only [Act.put, List.setIfInBounds_toArray, List.set_cons_zero, List.set_cons_succ]
        apply wpEffT_cons
        focus
          intro B L wz hL hD hC
          have hrun : (Instr.lookup 54 (.map (some Y.m)) (.agg #[I64 x.src, I64 x.dst]) false).run Tryz.prog wz = .ok (.slice A0 n0 c0) wz := by
            have := (N2.map.fr hC.2.1 (fun h => h)).look1 no_way Tryz.underlying54 (zero_lets wz) (x.src, x.dst) hwf
            rw [em] at this
            rw [this, HEV.out]
          refine .inl ⟨by rfl, ?_⟩
          unfold effAt
          go_simp
          exact ⟨rfl, hC.keep (by kernel_rfl) hD (by rfl)⟩
        simp only [Act.put, List.setIfInBounds_toArray, List.set_cons_zero, List.set_cons_succ]
        apply wpEffT_cons
        focus
          intro B L wz hL hD hC
          refine .inl ⟨by rfl, ?_⟩
          unfold effAt
          go_simp
          exact ⟨rfl, hC.keep (by kernel_rfl) hD (by rfl)⟩
        simp only [Act.put, List.setIfInBounds_toArray, List.set_cons_zero, List.set_cons_succ]
        by_cases h40 : n0 < 40
        · have hi40 : (n0 : Int) < 40 := by omega
          have hd40 : decide ((n0 : Int) < 40) = true := decide_eq_true hi40
          apply wpEffT_cons
          focus
            intro B L wz hL hD hC
            refine .inl ⟨by rfl, ?_⟩
            unfold effAt
            go_simp
            exact ⟨rfl, hC.keep (by kernel_rfl) hD (by rfl)⟩
          simp only [Act.put, List.setIfInBounds_toArray, List.set_cons_zero, List.set_cons_succ]
          apply wpEffT_cons
          focus
            intro B L wz hL hD hC
            refine .inl ⟨by rfl, ?_⟩
            unfold effAt
            go_simp
            exact ⟨rfl, hC.keep (by kernel_rfl) hD (by rfl)⟩
          simp only [Act.put, List.setIfInBounds_toArray, List.set_cons_zero, List.set_cons_succ]
          refine wpEffT_nil fun B wz hC => ?_
          have q6 := hC.2.1
          have N6 := N2.nw q6
          have g6 := g2.fr q6 (fun h => h)
          have b6 := bD.fr q6 (fun h => h)
          have x6 := x2.nw q6
          clear hC hxs
          go_upto_region 7 with (fail)
          have hcp : ∀ w9, Nw wz w9 → Calls Tryz.prog 33 #[.agg (letA x)] w9 fun e w' => ∃ y : LetM, e = .returned (.agg (letA y)) ∧ y.x = x.x ∧ LetOwn w9 w' y ∧ Nw w9 w' := fun w9 q => lCopy_any w9 (fun _ => True) x ((x6.nw q).mono (fun _ _ _ => trivial)) z1
          have l6 := hLO.nw q6
          have nG : ¬ (inA A0 G ∨ G = Y2.m) := fun e => by
            have h0 := HG.out
            rcases e with e | e
            · have := hN.ol _ (hLO.base _ e); omega
            · have := hN.ol _ hN.om; omega
          have nD : ¬ (inA A0 D ∨ D = Y2.m) := fun e => by
            have h0 := HD.out
            have h1 := qv1.size
            rcases e with e | e
            · have := hN.ol _ (hLO.base _ e); omega
            · have := hN.ol _ hN.om; omega
          have nY : ¬ (inA A0 Y2.g ∨ Y2.g = Y2.m) := fun e => by
            rcases e with e | e
            · exact (hLO.ne _ e).2 rfl
            · exact N2.gm e
          have y6 := N6.blk
          have m6 := N6.map
          have own6 : OwnO wz 50 20 A0 n0 c0 (letsC l0) := by rw [HN0.out]; exact l6.own
          rw [← eg]
          have HEG := Lib.hid eg
          have HEM := Lib.hid em
          clear eg em
          refine wp_region_appT (T := SdT) 13 14 15 16 (fun w9 => Nw wz w9) (sdS1 wz x) (sdS2 wz x) (sdS3 wz x A0 n0 c0 (letsC l0)) (sdS4 wz x A0 n0 c0 (letsC l0) Y2.m Y2.s (fun n => (Y2.f n).map Ls.v) (x.src, x.dst)) (fun _ => (letMZ, 0, none)) (by kernel_rfl) (by kernel_rfl) ((Fr.refl (fun _ => False) wz).drew) ?_
          apply wpEffT_cons
          focus
            intro B L w9 hL hD hC
            refine .inl ⟨by rfl, ?_⟩
            unfold effAt
            go_simp
            exact ⟨rfl, hC.keep (by kernel_rfl) hD (by rfl) (by rfl) (by rfl) (by rfl)⟩
          simp only [Act.put, List.setIfInBounds_toArray, List.set_cons_zero, List.set_cons_succ]
          apply wpEffT_cons
          focus
            intro B L w9 hL hD hC
            refine .inl ⟨by rfl, ?_⟩
            unfold effAt
            go_simp
            exact ⟨rfl, hC.keep (by kernel_rfl) hD (by rfl) (by rfl) (by rfl) (by rfl)⟩
          simp only [Act.put, List.setIfInBounds_toArray, List.set_cons_zero, List.set_cons_succ]
          apply wpEffT_cons
          focus
            intro B L w9 hL hD hC
            refine .inl ⟨by rfl, ?_⟩
            unfold effAt
            go_simp
            exact ⟨rfl, hC.keep (by kernel_rfl) hD (by rfl) (by rfl) (by rfl) (by rfl)⟩
          simp only [Act.put, List.setIfInBounds_toArray, List.set_cons_zero, List.set_cons_succ]
          apply wpEffT_cons
          focus
            intro B L w9 hL hD hC
            have f9 := hC.all (φ := Fr (fun k => inA A0 k ∨ k = Y2.m) wz w9) (fun h => Nw.on h) (fun a h => Nw.on h.1) (fun a b h => Nw.on h.1.1) (fun a b h => sd3_fr h _) (fun a b h => sd4_fr h)
            have hb9 := y6.fr f9 nY
            refine .inl ⟨by rfl, ?_⟩
            exact effAt_cells 56 _ rfl Y2.g 0 rfl [.map (some Y2.m)] _ (Blk.cells_at (l := [.map (some Y2.m)]) hb9 0) Tryz.underlying56 rfl (by kernel_rfl) (hC.keep (by kernel_rfl) hD (by rfl) (by rfl) (by rfl) (by rfl))
          simp only [Act.put, List.setIfInBounds_toArray, List.set_cons_zero, List.set_cons_succ]
          apply wpEffT_cons
          focus
            intro B L w9 hL hD hC
            have f9 := hC.all (φ := Fr (fun k => inA A0 k ∨ k = Y2.m) wz w9) (fun h => Nw.on h) (fun a h => Nw.on h.1) (fun a b h => Nw.on h.1.1) (fun a b h => sd3_fr h _) (fun a b h => sd4_fr h)
            have hb9 := b6.fr f9 nD
            refine .inl ⟨by rfl, ?_⟩
            exact effAt_cells 90 _ rfl D 0 rfl [I64 x.src, I64 x.dst] _ (Blk.cells_at (l := [I64 x.src, I64 x.dst]) hb9 0) Tryz.underlying90 rfl (by kernel_rfl) (hC.keep (by kernel_rfl) hD (by rfl) (by rfl) (by rfl) (by rfl))
          simp only [Act.put, List.setIfInBounds_toArray, List.set_cons_zero, List.set_cons_succ]
          apply wpEffT_cons
          focus
            intro B L w9 hL hD hC
            refine .inl ⟨by rfl, ?_⟩
            unfold effAt
            go_simp
            exact ⟨rfl, hC.keep (by kernel_rfl) hD (by rfl) (by rfl) (by rfl) (by rfl)⟩
          simp only [Act.put, List.setIfInBounds_toArray, List.set_cons_zero, List.set_cons_succ]
          apply wpEffT_cons
          focus
            intro B L w9 hL hD hC
            refine .inl ⟨by rfl, ?_⟩
            unfold effAt
            go_simp
            exact ⟨rfl, hC.keep (by kernel_rfl) hD (by rfl) (by rfl) (by rfl) (by rfl)⟩
          simp only [Act.put, List.setIfInBounds_toArray, List.set_cons_zero, List.set_cons_succ]
          apply wpEffT_cons
          focus
            intro B L w9 hL hD hC
            refine .inl ⟨by rfl, ?_⟩
            unfold effAt
            go_simp
            exact ⟨rfl, hC.keep (by kernel_rfl) hD (by rfl) (by rfl) (by rfl) (by rfl)⟩
          simp only [Act.put, List.setIfInBounds_toArray, List.set_cons_zero, List.set_cons_succ]
          apply wpEffT_cons
          focus
            intro B L w9 hL hD hC
            refine .inl ⟨by rfl, ?_⟩
            unfold effAt
            go_simp
            exact ⟨rfl, hC.keep (by kernel_rfl) hD (by rfl) (by rfl) (by rfl) (by rfl)⟩
          simp only [Act.put, List.setIfInBounds_toArray, List.set_cons_zero, List.set_cons_succ]
          apply wpEffT_cons
          focus
            intro B L w9 hL hD hC
            have f9 := hC.all (φ := Fr (fun k => inA A0 k ∨ k = Y2.m) wz w9) (fun h => Nw.on h) (fun a h => Nw.on h.1) (fun a b h => Nw.on h.1.1) (fun a b h => sd3_fr h _) (fun a b h => sd4_fr h)
            have hg9 : w9.cell? ⟨Y2.g, 0, none⟩ = some (.map (some Y2.m)) := by simpa using (y6.fr f9 nY).cell 0
            refine .inl ⟨by rfl, ?_⟩
            unfold effAt
            go_simp
            exact ⟨rfl, hC.keep (by kernel_rfl) hD (by rfl) (by rfl) (by rfl) (by rfl)⟩
          simp only [Act.put, List.setIfInBounds_toArray, List.set_cons_zero, List.set_cons_succ]
          apply wpEffT_cons
          focus
            intro B L w9 hL hD hC
            have f9 := hC.all (φ := Fr (fun k => inA A0 k ∨ k = Y2.m) wz w9) (fun h => Nw.on h) (fun a h => Nw.on h.1) (fun a b h => Nw.on h.1.1) (fun a b h => sd3_fr h _) (fun a b h => sd4_fr h)
            have hb9 := b6.fr f9 nD
            refine .inl ⟨by rfl, ?_⟩
            exact effAt_cells 90 _ rfl D 0 rfl [I64 x.src, I64 x.dst] _ (Blk.cells_at (l := [I64 x.src, I64 x.dst]) hb9 0) Tryz.underlying90 rfl (by kernel_rfl) (hC.keep (by kernel_rfl) hD (by rfl) (by rfl) (by rfl) (by rfl))
          simp only [Act.put, List.setIfInBounds_toArray, List.set_cons_zero, List.set_cons_succ]
          apply wpEffT_cons
          focus
            intro B L w9 hL hD hC
            have q9 : Nw wz w9 := hC.early hL (by kernel_rfl) (by kernel_rfl) (fun h => h) (fun a h => h.1) (fun a b h => h.1.1)
            have hrun : (Instr.lookup 54 (.map (some Y2.m)) (.agg #[I64 x.src, I64 x.dst]) false).run Tryz.prog w9 = .ok (.slice A0 n0 c0) w9 := by
              have := (m6.fr q9 (fun h => h)).look1 no_way Tryz.underlying54 (zero_lets w9) (x.src, x.dst) hwf
              rw [this, HEV.out]
            refine .inl ⟨by rfl, ?_⟩
            unfold effAt
            go_simp
            exact ⟨rfl, hC.keep (by kernel_rfl) hD (by rfl) (by rfl) (by rfl) (by rfl)⟩
          simp only [Act.put, List.setIfInBounds_toArray, List.set_cons_zero, List.set_cons_succ]
          apply wpEffT_cons
          focus
            intro B L w9 hL hD hC
            have f9 := hC.all (φ := Fr (fun k => inA A0 k ∨ k = Y2.m) wz w9) (fun h => Nw.on h) (fun a h => Nw.on h.1) (fun a b h => Nw.on h.1.1) (fun a b h => sd3_fr h _) (fun a b h => sd4_fr h)
            have hb9 := g6.fr f9 nG
            refine .inl ⟨by rfl, ?_⟩
            exact effAt_cells 50 _ rfl G 0 rfl (letL x) _ (Blk.cells_at (l := (letL x)) hb9 0) Tryz.underlying50 rfl (by kernel_rfl) (hC.keep (by kernel_rfl) hD (by rfl) (by rfl) (by rfl) (by rfl))
          simp only [Act.put, List.setIfInBounds_toArray, List.set_cons_zero, List.set_cons_succ]
          refine wpEffT_free (fun b => .agg (letA b.1)) ?_ ?_
          focus
            intro B L w9 hL hD hC
            obtain ⟨h1, h2⟩ := hC.call hL (by kernel_rfl) (by kernel_rfl) (by kernel_rfl) (by kernel_rfl) hD (by rfl) (by rfl) (by rfl)
            refine .inl ⟨by rfl, ?_⟩
            unfold effAtT
            go_simp
            refine (hcp _ h1).mono ?_
            rintro e w8 ⟨y, rfl, ey, oy, q8⟩
            exact ⟨(y, 0, none), rfl, h2 _ _ ⟨h1.tr q8, ey, oy.in_.mono (fun k hk _ => Nat.le_trans h1.size hk)⟩⟩
          simp only [Act.put, List.setIfInBounds_toArray, List.set_cons_zero, List.set_cons_succ]
          refine wpEffT_free (fun b => .slice (some ⟨b.2.1, 0, none⟩) 1 1) ?_ ?_
          focus
            intro B L w9 hL hD hC
            obtain ⟨h1, h2⟩ := hC.build hL (hD 13 (by kernel_rfl)) (by kernel_rfl) (by kernel_rfl) (by kernel_rfl) hD (by rfl) (by rfl) (by rfl)
            refine .inl ⟨by rfl, ?_⟩
            unfold effAtT
            go_simp
            exact ⟨(letMZ, w9.heap.size, none), rfl, h2 (w9.alloc (.cells (letA (B 13).1) 50)) _ ⟨sd1_nw h1 ((Fr.refl (fun _ => False) w9).alloc _), sl_new w9 50 (letL (B 13).1) _ rfl⟩⟩
          simp only [Act.put, List.setIfInBounds_toArray, List.set_cons_zero, List.set_cons_succ]
          refine wpEffT_free (fun b => .slice b.2.2 (n0 + 1) b.2.1) ?_ ?_
          focus
            intro B L w9 hL hD hC
            obtain ⟨h1, h2⟩ := hC.app hL (hD 14 (by kernel_rfl)) (by kernel_rfl) (by kernel_rfl) hD (by rfl) (by rfl)
            refine .inl ⟨by rfl, ?_⟩
            exact effAtT_appendO _ _ 28 rfl 256 (.agg #[U8V 0, I64 0, I64 0, I64 0, I64 0, I64 0, I64 0, I64 0, .bool false, .slice none 0 0, I64 0, I64 0, .slice none 0 0, .slice none 0 0, .slice none 0 0, .slice none 0 0, I64 0, I64 0, I64 0, .slice none 0 0]) Tryz.underlying28 info_let (by rfl) (by omega) rfl (own6.fr h1.1.1 (fun _ _ h => h)) rfl h1.2 (by rfl) (letL_cell _) (by omega) (by unfold maxLen; omega) (by omega) (fun A' cap' w' hA => ⟨(letMZ, cap', A'), rfl, h2 _ _ ⟨_, h1.1, hA⟩⟩)
          simp only [Act.put, List.setIfInBounds_toArray, List.set_cons_zero, List.set_cons_succ]
          apply wpEffT_cons
          focus
            intro B L w9 hL hD hC
            obtain ⟨h1, h2⟩ := hC.store hL (hD 15 (by kernel_rfl)) (by kernel_rfl) hD
            have hm9 : WayMap w9 Y2.m Y2.s (fun n => (Y2.f n).map Ls.v) := by
              obtain ⟨wy, h3, h4⟩ := h1
              exact (m6.fr h3.1 (fun h => h)).fr h4.fr (fun e => (hLO.ne _ e).1 rfl)
            have hset := netSet_put w9 Y2.m Y2.s _ hm9 (by unfold maxLen; omega) (x.src, x.dst) hwf (B 15).2.2 (n0 + 1) (B 15).2.1 (by omega)
            refine .inl ⟨by rfl, ?_⟩
            unfold effAt
            go_simp
            refine hset.mono ?_
            rintro e w8 ⟨rfl, hM8, f8⟩
            exact ⟨rfl, h2 _ ⟨w9, h1, hM8, f8⟩⟩
          simp only [Act.put, List.setIfInBounds_toArray, List.set_cons_zero, List.set_cons_succ]
          refine wpEffT_nil fun B wf hC => ?_
          have hfin := hC.fin (by rfl)
          obtain ⟨t, ht⟩ : ∃ t, t = B 13 := ⟨_, rfl⟩
          obtain ⟨b, hb⟩ : ∃ b, b = B 15 := ⟨_, rfl⟩
          rw [← ht, ← hb] at hfin
          clear hC hb ht
          obtain ⟨wx, ⟨wy, hs1, hap⟩, hMf, hff⟩ := hfin
          rw [HN0.out] at hap hMf
          have hwt : (t.1.src, t.1.dst) = (x.src, x.dst) := congrArg (fun u : LetF => (u.src, u.dst)) hs1.2.1
          obtain ⟨O3, I3, Y3, N7, eg3, em3, ep3, es3, f7, hO3, hI3⟩ := LinkOr.put N6 l6 hs1.1 t.1 hs1.2.2 (LetSz.of_eq hs1.2.1 z1) ⟨by rw [hs1.2.1]; exact HDD.out.symm, hwt⟩ (by rw [← HN0.out]; exact h40) hap hMf hff
          have HN7 := Lib.hid N7
          have HEP := Lib.hid ep3
          have f7w : Fr O2 wr wf := (Nw.on ((qv1.tr q2).tr q6)).tr f7
          have hwr := hq.size
          have h12 := qv1.size
          have h13 := q2.size
          have h14 := q6.size
          have HX3 := Lib.hid hs1.2.1
          clear N7 ep3 hs1 hap hMf hff hcp hwt
          rw [HEG.out]
          go_wp2_with fail
          go_roundw
          case rel =>
            have hst : sendP Y.p ((xs.take (k + 1)).map LetM.x) = sendStep (sendP Y.p ((xs.take k).map LetM.x)) x.x := by
              rw [List.take_succ_eq_append_getElem hlt, HX.out, List.map_append, List.map_singleton, sendP_snoc]
            have hst2 : sendStep (sendP Y.p ((xs.take k).map LetM.x)) x.x = (Y3.p, (sendP Y.p ((xs.take k).map LetM.x)).2 + 1) := by
              unfold sendStep
              rw [if_pos ⟨HDD.out.symm, by rw [← HP.out, ← HEN.out]; exact h40⟩, ← HP.out, HEP.out, HX3.out]
              refine congrArg (fun f => (f, (sendP Y.p ((xs.take k).map LetM.x)).2 + 1)) ?_
              funext m
              by_cases e : m = (x.src, x.dst)
              · subst e
                rfl
              · simp only [if_neg e]
            refine ⟨k + 1, O3, I3, Y3, by omega, by go_num, ?_, HN7.out, by rw [eg3, HEG.out], by rw [em3, HEM.out], by rw [hst, hst2], by omega, ?_, fun j hj => ?_, fun j hj => ?_⟩
            · rw [hst, hst2]
              have e9 : (xs.map LetM.x).take k = (xs.take k).map LetM.x := List.map_take.symm
              have hl9 : ((xs.take k).map LetM.x).length = k := by rw [List.length_map, List.length_take]; omega
              rw [hl9, ← e9] at hle
              rw [← e9]
              have hw9 := IntWalk.wrap64_in (((sendP Y.p ((xs.map LetM.x).take k)).2 : Nat) + 1 : Int) (by omega)
              rw [hw9]
              rfl
            · exact hq.trans f7w fun j hj => hO2 j hj
            · rcases hO3 j hj with h1 | h1
              · exact hO2 j h1
              · right; omega
            · rcases hI3 j hj with h1 | h1
              · exact hI2 j h1
              · right; omega
          case measure => simp [intOf]; omega
        · have hi40 : ¬ (n0 : Int) < 40 := by omega
          have hd40 : decide ((n0 : Int) < 40) = false := decide_eq_false hi40
          apply wpEffT_cons
          focus
            intro B L wz hL hD hC
            refine .inl ⟨by rfl, ?_⟩
            unfold effAt
            go_simp
            exact ⟨rfl, hC.keep (by kernel_rfl) hD (by rfl)⟩
          simp only [Act.put, List.setIfInBounds_toArray, List.set_cons_zero, List.set_cons_succ]
          apply wpEffT_cons
          focus
            intro B L wz hL hD hC
            refine .inl ⟨by rfl, ?_⟩
            unfold effAt
            go_simp
            exact ⟨rfl, hC.keep (by kernel_rfl) hD (by rfl)⟩
          simp only [Act.put, List.setIfInBounds_toArray, List.set_cons_zero, List.set_cons_succ]
          refine wpEffT_nil fun B wz hC => ?_
          have q6 := hC.2.1
          clear hC hxs
          go_wp2_with fail
          go_roundw
          case rel =>
            have hst : sendP Y.p ((xs.take (k + 1)).map LetM.x) = sendP Y.p ((xs.take k).map LetM.x) := by
              rw [List.take_succ_eq_append_getElem hlt, HX.out, List.map_append, List.map_singleton, sendP_snoc]
              unfold sendStep
              rw [if_neg]
              rintro ⟨_, h8⟩
              rw [← HP.out] at h8
              exact h40 (HEN.out ▸ h8)
            exact ⟨k + 1, O2, I2, Y2, by omega, by go_num, by rw [hst, List.map_take], N2.nw q6, eg, em, by rw [hst]; exact HP.out, by omega, hq.tr (Nw.on ((qv1.tr q2).tr q6)), hO2, hI2⟩
          case measure => simp [intOf]; omega
    · obtain rfl : xs.length = k := by omega
      obtain ⟨r, hr⟩ : ∃ r, r = (sendP Y.p ((xs.take xs.length).map LetM.x)).2 := ⟨_, rfl⟩
      rw [← hr]
      have HR := Lib.hid hr
      clear hr hle
      go_wp2_with fail
      go_ret
      have hT : (sendP Y.p (xs.map LetM.x)) = sendP Y.p ((xs.take xs.length).map LetM.x) := by rw [List.take_of_length_le (Nat.le_refl _)]
      refine ⟨by rw [hT, ← HR.out]; rfl, O2, I2, Y2, hN, eg, em, by rw [hT]; exact HP.out, hs2, hq, hO2, hI2⟩
end Go.Proofs.YtippdjaakcgeoaaGreat
