/- Letters written, by the program: letter.Put. (Printed by genjy.py.) -/
import Derived.Test.YtippdjaakcgeoaaJwC
import Derived.Test.YtippdjaakcgeoaaRgC
namespace Go.Proofs.Ytippdjaakcgeoaa
open Go Go.RowKit
set_option linter.unusedVariables false
set_option linter.unusedSimpArgs false
/-- What 'Put' leaves: the bytes, by themselves, or the error. -/
def PutTo (w : World) (r : Option (List UInt8)) (e : Ending) (w' : World) : Prop :=
  match r with
  | none => e = .returned (.tuple #[.slice none 0 0, .int .i64 2]) ∧ Nw w w'
  | some b => ∃ A c, e = .returned (.tuple #[.slice A b.length c, .int .i64 0]) ∧ Own w' 5 1 A b.length c (b.map B8) ∧ Nw w w' ∧ ∀ k, inA A k → w.heap.size ≤ k
def letsU (l : List LetM) (k : Nat) : List UInt8 := ((l.take k).map fun x => letB x.x).flatten
theorem letsU_le (l : List LetM) (k : Nat) (h : ∀ x ∈ l, letOk x.x = true) : (letsU l k).length ≤ 4200000 * l.length := by
  have key : ∀ (m : List LetM), (∀ x ∈ m, letOk x.x = true) → ((m.map fun x => letB x.x).flatten).length ≤ 4200000 * m.length := by
    intro m
    induction m with
    | nil => intro _; simp
    | cons e m ih =>
      intro hm
      have h1 := letB_le (hm e (by simp))
      have h2 := ih (fun x hx => hm x (by simp [hx]))
      simp only [List.map_cons, List.flatten_cons, List.length_append, List.length_cons]
      omega
  have h1 := key (l.take k) (fun x hx => h x (List.mem_of_mem_take hx))
  have h2 : (l.take k).length ≤ l.length := by rw [List.length_take]; omega
  unfold letsU
  omega
theorem letsU_snoc (l : List LetM) (k : Nat) (h : k < l.length) : letsU l (k + 1) = letsU l k ++ letB (l[k]).x := by
  unfold letsU
  rw [List.take_succ_eq_append_getElem h, List.map_append, List.flatten_append]
  simp
theorem letsU_all (l : List LetM) (k : Nat) (h : l.length ≤ k) : enc l.length ++ letsU l k = letsB (l.map LetM.x) := by
  unfold letsU letsB
  rw [List.take_of_length_le h, List.length_map, List.map_map]
  rfl
def LpRel (w : World) (F : Nat → Prop) (g : Nat) (l : List LetM) (i : Value) (wr : World) : Prop :=
  ∃ k : Nat, k ≤ l.length ∧ i = .int .i64 k ∧ WrTo w F g (W8 (enc l.length ++ letsU l k)) wr
set_option maxRecDepth 100000 in
set_option maxHeartbeats 8000000 in
theorem lPut_any (w : World) (F : Nat → Prop) (A : Option Addr) (c : Nat) (l : List LetM) (h : Sl w F A (letsC l)) (he : ∀ x ∈ l, LetIn w F x) (hz : ∀ x ∈ l, LetSz x) (hsz : l.length ≤ 10000) :
    Calls Try.prog 25 #[.slice A l.length c] w fun e w' => PutTo w (letsPut (l.map LetM.x)) e w' := by
  have hrt := lRight_any w F A c l h he hz (by omega)
  have hgo : ∀ r, letsPut (l.map LetM.x) = r → Calls Try.prog 25 #[.slice A l.length c] w fun e w' => PutTo w r e w' := by
    cases hd : letsOk (l.map LetM.x) with
    | false =>
      intro r hr
      have : r = none := by rw [← hr]; unfold letsPut; rw [hd]; rfl
      subst this
      clear hr
      rw [hd] at hrt
      go_enter Try.func25, Try.ntmps25
      go_wp2_with fail
      refine hrt.mono ?_
      rintro e w1 ⟨rfl, q1⟩
      go_wp2_with fail
      go_ret2
      exact ⟨rfl, q1⟩
    | true =>
      intro r hr
      have hr2 : r = some (letsB (l.map LetM.x)) := by rw [← hr]; unfold letsPut; rw [hd]; rfl
      subst hr2
      clear hr
      have hok : ∀ x ∈ l, letOk x.x = true := fun x hx => (letsOk_iff _).1 hd _ (List.mem_map.2 ⟨x, hx, rfl⟩)
      rw [hd] at hrt
      have hmost : ∀ k, (enc l.length ++ letsU l k).length ≤ 50000000000 := fun k => by
        have := letsU_le l k hok
        have := enc_len l.length
        rw [List.length_append]
        omega
      have HOK := Lib.hid hok
      have HE := Lib.hid he
      clear hok hd he
      go_enter Try.func25, Try.ntmps25
      go_upto_region 3 with (go_at_call 24; refine hrt.mono ?_; rintro e w1 ⟨rfl, q1⟩)
      obtain ⟨g, hg⟩ : ∃ g, g = w1.heap.size := ⟨_, rfl⟩
      have hnw := newWriter_any w1
      rw [← hg] at hnw
      have hgw : w.heap.size ≤ g := by rw [hg]; exact q1.size
      clear hg
      go_upto_region 4 with (go_at_call 52; refine hnw.mono ?_; rintro e w2 ⟨rfl, hw2, q2⟩)
      obtain ⟨S, hS⟩ : ∃ S, S = w2.heap.size := ⟨_, rfl⟩
      obtain ⟨W3, hW3⟩ : ∃ W3, W3 = w2.alloc (.cells #[.pointer (some ⟨g, 0, none⟩)] 92) := ⟨_, rfl⟩
      have q3 : Nw w2 W3 := by rw [hW3]; exact (Fr.refl (fun _ => False) w2).alloc _
      have s3 : Blk W3 S 92 #[.pointer (some ⟨g, 0, none⟩)] := by rw [hW3, hS]; exact Blk.new w2 _ _
      have hz3 : W3.heap.size = S + 1 := by rw [hW3, hS]; simp
      have hgS : g < S := by rw [hS]; exact hw2.bound g rfl
      have w3 := hw2.fr q3 (fun _ _ h => h)
      have Q3 : Nw w W3 := (q1.tr q2).tr q3
      have c3 : W3.cell? ⟨S, 0, none⟩ = some (.pointer (some ⟨g, 0, none⟩)) := by simpa using s3.cell 0
      obtain ⟨W4, hW4⟩ : ∃ W4, W4 = W3.alloc (.cells #[I64 l.length] 3) := ⟨_, rfl⟩
      have q4 : Nw W3 W4 := by rw [hW4]; exact (Fr.refl (fun _ => False) W3).alloc _
      have b4 : Blk W4 (S + 1) 3 #[I64 l.length] := by rw [hW4, ← hz3]; exact Blk.new W3 _ _
      have w4 := w3.fr q4 (fun _ _ h => h)
      have hcon := wk_nums W4 (· = g) g [] w4 (S + 1) 1 [(l.length : Int)] #[I64 l.length] b4 (fun e => by omega) rfl rfl (by omega) (by intro x hx; rw [List.mem_singleton.1 hx]; exact nat_right _ (by omega)) (by simp)
      have e1 : [] ++ encAll [(l.length : Int)] = enc l.length ++ letsU l 0 := by simp [encAll, letsU]
      rw [e1] at hcon
      have s4 := s3.fr q4 (fun h => h)
      have Q4 : Nw w W4 := Q3.tr q4
      have HW3 := Lib.hid hW3
      have HW4 := Lib.hid hW4
      have HS := Lib.hid hS
      have HZ3 := Lib.hid hz3
      clear hW3 hW4 hS hz3 w3 s3 b4
      rw [← HS.out, ← HW3.out]
      go_upto_region 5 with (go_at_call 53; rw [← HW4.out, HZ3.out]; refine hcon.mono ?_; rintro e w5 ⟨rfl, t5⟩)
      clear hcon c3
      go_wp2_with fail
      go_loopw [20] (fun i wr => LpRel W4 (· = g) g l i wr) (fun i _ => l.length - (intOf i).toNat)
      case atStart => exact ⟨0, Nat.zero_le _, rfl, t5⟩
      case round =>
        clear t5
        obtain ⟨k, hk, rfl, FC, hC, fC, nC⟩ := hrel
        have sr := s4.fr fC (fun h => by omega)
        have cr : wr.cell? ⟨S, 0, none⟩ = some (.pointer (some ⟨g, 0, none⟩)) := by simpa using sr.cell 0
        by_cases hlt : k < l.length
        · have hno : ∀ j, j < w.heap.size ∧ F j → ¬ (j = g) := fun j hj e => by omega
          obtain ⟨b, of, rfl, _, _, hc⟩ := (((h.mono (F' := fun j => j < w.heap.size ∧ F j) fun j h1 h2 => ⟨h2, h1⟩).fr Q4 (fun _ _ h => h)).fr fC hno).let_ hlt
          have hi0 : (k : Int) < (l.length : Int) := by omega
          have ix := (((HE.out _ (List.getElem_mem hlt)).mono (F' := fun j => j < w.heap.size ∧ F j) fun j h1 h2 => ⟨h2, h1⟩).fr Q4 (fun _ _ h => h)).fr fC hno
          have hokx := HOK.out _ (List.getElem_mem hlt)
          have hsn := letsU_snoc l k hlt
          have hmk := hmost k
          obtain ⟨x, hx⟩ : ∃ x, l[k] = x := ⟨_, rfl⟩
          rw [hx] at ix hc hsn hokx
          obtain ⟨E, hE⟩ : ∃ E, E = wr.heap.size := ⟨_, rfl⟩
          obtain ⟨V0, hV0⟩ : ∃ V, V = wr.alloc (.cells #[U8V 0, I64 0, I64 0, I64 0, I64 0, I64 0, I64 0, I64 0, .bool false, .slice none 0 0, I64 0, I64 0, .slice none 0 0, .slice none 0 0, .slice none 0 0, .slice none 0 0, I64 0, I64 0, I64 0, .slice none 0 0] 40) := ⟨_, rfl⟩
          have qv0 : Nw wr V0 := by rw [hV0]; exact (Fr.refl (fun _ => False) wr).alloc _
          have g0 : Blk V0 E 40 #[U8V 0, I64 0, I64 0, I64 0, I64 0, I64 0, I64 0, I64 0, .bool false, .slice none 0 0, I64 0, I64 0, .slice none 0 0, .slice none 0 0, .slice none 0 0, .slice none 0 0, I64 0, I64 0, I64 0, .slice none 0 0] := by rw [hV0, hE]; exact Blk.new _ _ _
          obtain ⟨V1, hV1⟩ : ∃ V, V = V0.setCells E 0 [U8V x.kind, I64 x.group, I64 x.src, I64 x.dst, I64 x.term, I64 x.index, I64 x.logt, I64 x.commit, .bool x.ok, .slice x.ents.a x.ents.l.length x.ents.c, I64 x.base.index, I64 x.base.term, .slice x.base.cfg.v.a x.base.cfg.v.l.length x.base.cfg.v.c, .slice x.base.cfg.o.a x.base.cfg.o.l.length x.base.cfg.o.c, .slice x.base.cfg.l.a x.base.cfg.l.l.length x.base.cfg.l.c, .slice x.base.cfg.w.a x.base.cfg.w.l.length x.base.cfg.w.c, I64 x.size, I64 x.at_, I64 x.tag, .slice x.bytes.a x.bytes.l.length x.bytes.c] := ⟨_, rfl⟩
          have g1 : Blk V1 E 40 #[U8V x.kind, I64 x.group, I64 x.src, I64 x.dst, I64 x.term, I64 x.index, I64 x.logt, I64 x.commit, .bool x.ok, .slice x.ents.a x.ents.l.length x.ents.c, I64 x.base.index, I64 x.base.term, .slice x.base.cfg.v.a x.base.cfg.v.l.length x.base.cfg.v.c, .slice x.base.cfg.o.a x.base.cfg.o.l.length x.base.cfg.o.c, .slice x.base.cfg.l.a x.base.cfg.l.l.length x.base.cfg.l.c, .slice x.base.cfg.w.a x.base.cfg.w.l.length x.base.cfg.w.c, I64 x.size, I64 x.at_, I64 x.tag, .slice x.bytes.a x.bytes.l.length x.bytes.c] := by rw [hV1]; exact Blk.setCells (l := [U8V 0, I64 0, I64 0, I64 0, I64 0, I64 0, I64 0, I64 0, .bool false, .slice none 0 0, I64 0, I64 0, .slice none 0 0, .slice none 0 0, .slice none 0 0, .slice none 0 0, I64 0, I64 0, I64 0, .slice none 0 0]) g0 0 [U8V x.kind, I64 x.group, I64 x.src, I64 x.dst, I64 x.term, I64 x.index, I64 x.logt, I64 x.commit, .bool x.ok, .slice x.ents.a x.ents.l.length x.ents.c, I64 x.base.index, I64 x.base.term, .slice x.base.cfg.v.a x.base.cfg.v.l.length x.base.cfg.v.c, .slice x.base.cfg.o.a x.base.cfg.o.l.length x.base.cfg.o.c, .slice x.base.cfg.l.a x.base.cfg.l.l.length x.base.cfg.l.c, .slice x.base.cfg.w.a x.base.cfg.w.l.length x.base.cfg.w.c, I64 x.size, I64 x.at_, I64 x.tag, .slice x.bytes.a x.bytes.l.length x.bytes.c]
          have m1 : Fr (· = E) V0 V1 := by rw [hV1]; exact (Fr.refl (· = E) _).setCells _ _
          have qv1 : Nw wr V1 := qv0.new m1 (fun b hb => by omega)
          have th1 := Blk.there (l := [U8V 0, I64 0, I64 0, I64 0, I64 0, I64 0, I64 0, I64 0, .bool false, .slice none 0 0, I64 0, I64 0, .slice none 0 0, .slice none 0 0, .slice none 0 0, .slice none 0 0, I64 0, I64 0, I64 0, .slice none 0 0]) g0 0 20 (by show 0 + 20 ≤ 20; omega)
          have one1 := letA_one x
          have hC1 := hC.fr qv1 (fun _ _ h => h)
          have lx := Blk.cells_at (l := [U8V x.kind, I64 x.group, I64 x.src, I64 x.dst, I64 x.term, I64 x.index, I64 x.logt, I64 x.commit, .bool x.ok, .slice x.ents.a x.ents.l.length x.ents.c, I64 x.base.index, I64 x.base.term, .slice x.base.cfg.v.a x.base.cfg.v.l.length x.base.cfg.v.c, .slice x.base.cfg.o.a x.base.cfg.o.l.length x.base.cfg.o.c, .slice x.base.cfg.l.a x.base.cfg.l.l.length x.base.cfg.l.c, .slice x.base.cfg.w.a x.base.cfg.w.l.length x.base.cfg.w.c, I64 x.size, I64 x.at_, I64 x.tag, .slice x.bytes.a x.bytes.l.length x.bytes.c]) g1 0
          have c1 : V1.cell? ⟨S, 0, none⟩ = some (.pointer (some ⟨g, 0, none⟩)) := by simpa using (sr.fr qv1 (fun h => h)).cell 0
          have hap : Apart V1 (fun j => j < w.heap.size ∧ F j) FC := fun j hj => by
            have h1 := Q4.size
            have h2 := fC.size
            have h3 := qv1.size
            exact ⟨by omega, fun hF => (nC j hF).elim (fun h => by omega) (fun h => by omega)⟩
          have hcon := lletter_any V1 FC (fun j => j < w.heap.size ∧ F j) g _ hC1 x (ix.nw qv1) hap hokx (by omega)
          have HSN := Lib.hid hsn
          have HE0 := Lib.hid hE
          have HV0 := Lib.hid hV0
          have HV1 := Lib.hid hV1
          clear hE hV0 hV1 hsn hx g0 g1 m1 hC1 hC sr
          go_upto_region 8 with (first | (refine wl_load_cells rfl 40 _ rfl b (of + k * 20) rfl [U8V x.kind, I64 x.group, I64 x.src, I64 x.dst, I64 x.term, I64 x.index, I64 x.logt, I64 x.commit, .bool x.ok, .slice x.ents.a x.ents.l.length x.ents.c, I64 x.base.index, I64 x.base.term, .slice x.base.cfg.v.a x.base.cfg.v.l.length x.base.cfg.v.c, .slice x.base.cfg.o.a x.base.cfg.o.l.length x.base.cfg.o.c, .slice x.base.cfg.l.a x.base.cfg.l.l.length x.base.cfg.l.c, .slice x.base.cfg.w.a x.base.cfg.w.l.length x.base.cfg.w.c, I64 x.size, I64 x.at_, I64 x.tag, .slice x.bytes.a x.bytes.l.length x.bytes.c] _ hc Try.underlying40 rfl (by kernel_rfl) ?_) | (rw [← HE0.out, ← HV0.out]; refine wpList_store_mid rfl 40 _ _ rfl E 0 #[U8V x.kind, I64 x.group, I64 x.src, I64 x.dst, I64 x.term, I64 x.index, I64 x.logt, I64 x.commit, .bool x.ok, .slice x.ents.a x.ents.l.length x.ents.c, I64 x.base.index, I64 x.base.term, .slice x.base.cfg.v.a x.base.cfg.v.l.length x.base.cfg.v.c, .slice x.base.cfg.o.a x.base.cfg.o.l.length x.base.cfg.o.c, .slice x.base.cfg.l.a x.base.cfg.l.l.length x.base.cfg.l.c, .slice x.base.cfg.w.a x.base.cfg.w.l.length x.base.cfg.w.c, I64 x.size, I64 x.at_, I64 x.tag, .slice x.bytes.a x.bytes.l.length x.bytes.c] rfl rfl th1 (by kernel_rfl) one1 ?_; rw [← HV1.out]))
          clear cr hc
          go_wp2_with (refine wl_load_cells rfl 40 _ rfl E 0 rfl [U8V x.kind, I64 x.group, I64 x.src, I64 x.dst, I64 x.term, I64 x.index, I64 x.logt, I64 x.commit, .bool x.ok, .slice x.ents.a x.ents.l.length x.ents.c, I64 x.base.index, I64 x.base.term, .slice x.base.cfg.v.a x.base.cfg.v.l.length x.base.cfg.v.c, .slice x.base.cfg.o.a x.base.cfg.o.l.length x.base.cfg.o.c, .slice x.base.cfg.l.a x.base.cfg.l.l.length x.base.cfg.l.c, .slice x.base.cfg.w.a x.base.cfg.w.l.length x.base.cfg.w.c, I64 x.size, I64 x.at_, I64 x.tag, .slice x.bytes.a x.bytes.l.length x.bytes.c] _ lx Try.underlying40 rfl (by kernel_rfl) ?_)
          refine hcon.mono ?_
          rintro e w6 ⟨rfl, t6⟩
          go_wp2_with fail
          go_roundw
          case rel =>
            refine ⟨k + 1, by omega, by go_num, ?_⟩
            rw [HSN.out, ← List.append_assoc]
            exact WrTo.after fC nC (WrTo.after (Nw.on qv1) (fun _ h => .inl h) t6)
          case measure => simp [intOf]; omega
        · obtain rfl : k = l.length := by omega
          have hd := done_ok wr FC g _ hC rfl (by have := hmost l.length; show (enc l.length ++ letsU l l.length).length ≤ _; omega)
          have hb : enc l.length ++ letsU l l.length = letsB (l.map LetM.x) := letsU_all l _ (Nat.le_refl _)
          have hd2 : Calls Try.prog 55 #[.pointer (some ⟨g, 0, none⟩)] wr fun e w' => ∃ A c, e = .returned (.tuple #[.slice A (letsB (l.map LetM.x)).length c, .int .i64 0]) ∧ Own w' 5 1 A (letsB (l.map LetM.x)).length c ((letsB (l.map LetM.x)).map B8) ∧ Nw wr w' ∧ ∀ k, inA A k → wr.heap.size ≤ k := by
            rw [← hb]
            exact hd
          have hfin := Q4.new fC (fun b hb => by omega)
          clear hd hb hC
          obtain ⟨n, hn⟩ : ∃ n, n = (letsB (l.map LetM.x)).length := ⟨_, rfl⟩
          rw [← hn] at hd2
          have HN := Lib.hid hn
          clear hn
          go_wp2_with fail
          refine hd2.mono ?_
          rintro e w6 ⟨A1, c1, rfl, o6, q6, n6⟩
          go_wp2_with fail
          go_ret2
          refine ⟨A1, c1, by rw [← HN.out]; rfl, by rw [← HN.out]; exact o6, hfin.tr q6, fun j hj => Nat.le_trans hfin.size (n6 j hj)⟩
  exact hgo _ rfl
end Go.Proofs.Ytippdjaakcgeoaa
