/- Letters written, by the program: bases, entries. (Printed by genjw.py.) -/
import Derived.Test.YtippdjaakcgeoaaJwA
import Derived.Test.YtippdjaakcgeoaaLeP
import Derived.Test.YtippdjaakcgeoaaQld
namespace Go.Proofs.Ytippdjaakcgeoaa
open Go Go.RowKit
set_option linter.unusedVariables false
set_option linter.unusedSimpArgs false
theorem cfgOk_R {c : Cfg} (h : cfgOk c = true) : CfgR c := by
  obtain ⟨h1, h2, h3, h4⟩ := cfgOk_parts h
  have hh : ∀ l, nodesOk l = true → NdsR l := fun l hl n hn => by have := nodesOk_mem hl n hn; exact int_right n this.1 (by omega)
  exact ⟨hh _ h1, hh _ h2, hh _ h3, hh _ h4⟩
theorem cfgOk_le {c : Cfg} (h : cfgOk c = true) : (cfgB c).length ≤ 216 := by
  obtain ⟨h1, h2, h3, h4⟩ := cfgOk_parts h
  have := cfgB_le c
  have := nodesOk_len h1
  have := nodesOk_len h2
  have := nodesOk_len h3
  have := nodesOk_len h4
  unfold cfgM at *
  omega
theorem cfgSz_ok {c : CfgM} (h : cfgOk c.x = true) : CfgSz c := by
  obtain ⟨h1, h2, h3, h4⟩ := cfgOk_parts h
  have h1 : c.v.l.length ≤ 5 := nodesOk_len h1
  have h2 : c.o.l.length ≤ 5 := nodesOk_len h2
  have h3 : c.l.l.length ≤ 5 := nodesOk_len h3
  have h4 : c.w.l.length ≤ 5 := nodesOk_len h4
  exact ⟨by omega, by omega, by omega, by omega⟩
theorem rowB_most (s : List UInt8) : (rowB s).length ≤ 9 + s.length := by
  have := enc_len s.length
  unfold rowB
  simp only [List.length_append]
  omega
theorem entB_le {e : Ent} (h : entOk e = true) : (entB e).length ≤ 131400 := by
  obtain ⟨_, _, h3, h4⟩ := entOk_sm h
  have := cfgOk_le h4
  have := rowB_most e.cmd
  have := enc_len e.term.toNat
  have := enc_len e.kind.toNat
  unfold entB
  simp only [List.length_append]
  omega
theorem entsB_le (l : List Ent) (h : ∀ e ∈ l, entOk e = true) : (entsB l).length ≤ 131400 * l.length := by
  induction l with
  | nil => simp [entsB]
  | cons e l ih =>
    have h1 := entB_le (h e (by simp))
    have h2 := ih (fun x hx => h x (by simp [hx]))
    have e1 : entsB (e :: l) = entB e ++ entsB l := rfl
    rw [e1, List.length_append, List.length_cons]
    omega
theorem basB_le {b : Bas} (h : basOk b = true) : (basB b).length ≤ 300 := by
  obtain ⟨_, _, h3⟩ := basOk_sm h
  have := cfgOk_le h3
  have := enc_len b.index.toNat
  have := enc_len b.term.toNat
  unfold basB
  simp only [List.length_append]
  omega
theorem entsB_snoc (l : List EntM) (k : Nat) (h : k < l.length) : entsB ((l.take (k + 1)).map EntM.x) = entsB ((l.take k).map EntM.x) ++ entB (l[k]).x := by
  unfold entsB
  rw [List.take_succ_eq_append_getElem h, List.map_append, List.map_append, List.flatten_append]
  simp
theorem encAll_two (a b : Int) : encAll [a, b] = enc a.toNat ++ enc b.toNat := by simp [encAll]
set_option maxRecDepth 100000 in
set_option maxHeartbeats 8000000 in
theorem jwriteBase_any (w : World) (F F2 : Nat → Prop) (g : Nat) (bs : List UInt8) (h : IsWr w F g (W8 bs)) (x : BasM) (hx : CfgIn w F2 x.cfg) (hz : CfgSz x.cfg) (hap : Apart w F2 F) (hok : basOk x.x = true) (hsz : bs.length ≤ 400000000000) :
    Calls Try.prog 81 #[.pointer (some ⟨g, 0, none⟩), .agg (basA x)] w fun e w' => e = .returned (.pointer (some ⟨g, 0, none⟩)) ∧ WrTo w F g (W8 (bs ++ basB x.x)) w' := by
  obtain ⟨hi, ht, hc⟩ := basOk_sm hok
  have hi : 0 ≤ x.index ∧ x.index ≤ 1073741824 := hi
  have ht : 0 ≤ x.term ∧ x.term ≤ 1073741824 := ht
  obtain ⟨X, hX⟩ : ∃ X, X = w.heap.size := ⟨_, rfl⟩
  obtain ⟨Y, hY⟩ : ∃ Y, Y = w.heap.size + 1 := ⟨_, rfl⟩
  obtain ⟨W0, hW0⟩ : ∃ W, W = w.alloc (.cells #[I64 x.index, I64 x.term, .slice x.cfg.v.a x.cfg.v.l.length x.cfg.v.c, .slice x.cfg.o.a x.cfg.o.l.length x.cfg.o.c, .slice x.cfg.l.a x.cfg.l.l.length x.cfg.l.c, .slice x.cfg.w.a x.cfg.w.l.length x.cfg.w.c] 37) := ⟨_, rfl⟩
  have p0 : Nw w W0 := by rw [hW0]; exact (Fr.refl (fun _ => False) _).alloc _
  have x0 : Blk W0 X 37 #[I64 x.index, I64 x.term, .slice x.cfg.v.a x.cfg.v.l.length x.cfg.v.c, .slice x.cfg.o.a x.cfg.o.l.length x.cfg.o.c, .slice x.cfg.l.a x.cfg.l.l.length x.cfg.l.c, .slice x.cfg.w.a x.cfg.w.l.length x.cfg.w.c] := by rw [hW0, hX]; exact Blk.new _ _ _
  have hz0 : W0.heap.size = Y := by rw [hW0, hY]; simp
  have c0 : W0.cell? ⟨X, 0, none⟩ = some (I64 x.index) := by simpa using x0.cell 0
  have c1 : W0.cell? ⟨X, 1, none⟩ = some (I64 x.term) := by simpa using x0.cell 1
  obtain ⟨W1, hW1⟩ : ∃ W, W = W0.alloc (.cells #[I64 x.index, I64 x.term] 3) := ⟨_, rfl⟩
  have p1 : Nw W0 W1 := by rw [hW1]; exact (Fr.refl (fun _ => False) _).alloc _
  have y1 : Blk W1 Y 3 #[I64 x.index, I64 x.term] := by rw [hW1, ← hz0]; exact Blk.new _ _ _
  have x1 := x0.fr p1 (fun h => h)
  have Q1 : Nw w W1 := p0.tr p1
  have h1 := h.fr Q1 (fun _ _ h => h)
  have hXF : ¬ F X := fun hF => by have := h.bound _ hF; omega
  have hYF : ¬ F Y := fun hF => by have := h.bound _ hF; omega
  have hcon := wk_nums W1 F g bs h1 Y 2 [x.index, x.term] #[I64 x.index, I64 x.term] y1 hYF rfl rfl (by omega) (by intro z hz; simp only [List.mem_cons, List.not_mem_nil, or_false] at hz; rcases hz with rfl | rfl <;> exact int_right _ (by omega) (by omega)) (by omega)
  have hcon2 : ∀ w2, WrTo W1 F g (W8 (bs ++ encAll [x.index, x.term])) w2 → Calls Try.prog 98 #[.pointer (some ⟨g, 0, none⟩), .agg #[.slice x.cfg.v.a x.cfg.v.l.length x.cfg.v.c, .slice x.cfg.o.a x.cfg.o.l.length x.cfg.o.c, .slice x.cfg.l.a x.cfg.l.l.length x.cfg.l.c, .slice x.cfg.w.a x.cfg.w.l.length x.cfg.w.c]] w2 fun e w' => e = .returned (.tuple #[]) ∧ WrTo w F g (W8 (bs ++ basB x.x)) w' := by
    rintro w2 ⟨F', t1, t2, t3⟩
    have f02 : Fr F w w2 := (Nw.on Q1).tr t2
    have n02 : ∀ k, F' k → F k ∨ w.heap.size ≤ k := fun k hk => (t3 k hk).elim .inl (fun h => .inr (Nat.le_trans Q1.size h))
    have hl := encAll_le [x.index, x.term]
    simp only [List.length_cons, List.length_nil] at hl
    refine (jconfig_any w2 F' F2 g _ t1 x.cfg (hx.fr f02 hap.no) hz (hap.fr f02 n02) (cfgOk_R hc) (by rw [List.length_append]; omega)).mono ?_
    rintro e w' ⟨rfl, t⟩
    refine ⟨rfl, WrTo.after f02 n02 ?_⟩
    rw [List.append_assoc, encAll_two, List.append_assoc] at t
    exact t
  have l3 : ∀ w2, WrTo W1 F g (W8 (bs ++ encAll [x.index, x.term])) w2 → ∀ p u, ([.slice x.cfg.v.a x.cfg.v.l.length x.cfg.v.c, .slice x.cfg.o.a x.cfg.o.l.length x.cfg.o.c, .slice x.cfg.l.a x.cfg.l.l.length x.cfg.l.c, .slice x.cfg.w.a x.cfg.w.l.length x.cfg.w.c] : List Value)[p]? = some u → w2.cell? ⟨X, 2 + p, none⟩ = some u := by
    rintro w2 ⟨F', t1, t2, t3⟩
    exact Blk.cells_in (l := [I64 x.index, I64 x.term, .slice x.cfg.v.a x.cfg.v.l.length x.cfg.v.c, .slice x.cfg.o.a x.cfg.o.l.length x.cfg.o.c, .slice x.cfg.l.a x.cfg.l.l.length x.cfg.l.c, .slice x.cfg.w.a x.cfg.w.l.length x.cfg.w.c]) (x1.fr t2 hXF) 2 4
  have HX := Lib.hid hX
  have HZ0 := Lib.hid hz0
  have HW0 := Lib.hid hW0
  have HW1 := Lib.hid hW1
  clear hX hY hz0 hW0 hW1 x0 h1
  go_enter Try.func81, Try.ntmps81
  go_upto_region 1 with (fail)
  rw [← HX.out, ← HW0.out]
  go_wp2_with fail
  rw [← HW1.out, HZ0.out]
  refine hcon.mono ?_
  rintro e w2 ⟨rfl, t⟩
  have hc2 := hcon2 w2 t
  have hl3 := l3 w2 t
  clear hcon2 l3
  go_wp2_with (refine wl_load_cells rfl 35 _ rfl X 2 rfl [.slice x.cfg.v.a x.cfg.v.l.length x.cfg.v.c, .slice x.cfg.o.a x.cfg.o.l.length x.cfg.o.c, .slice x.cfg.l.a x.cfg.l.l.length x.cfg.l.c, .slice x.cfg.w.a x.cfg.w.l.length x.cfg.w.c] _ hl3 Try.underlying35 rfl (by kernel_rfl) ?_)
  refine hc2.mono ?_
  rintro e w3 ⟨rfl, t3⟩
  go_wp2_with fail
  go_ret
  exact ⟨rfl, t3⟩
def JwRel (w : World) (F : Nat → Prop) (g : Nat) (bs : List UInt8) (l : List EntM) (i : Value) (wr : World) : Prop :=
  ∃ k : Nat, k ≤ l.length ∧ i = .int .i64 k ∧ WrTo w F g (W8 (bs ++ entsB ((l.take k).map EntM.x))) wr
set_option maxRecDepth 100000 in
set_option maxHeartbeats 8000000 in
theorem jwrite_any (w : World) (F F2 : Nat → Prop) (g : Nat) (bs : List UInt8) (h : IsWr w F g (W8 bs)) (A : Option Addr) (c : Nat) (l : List EntM) (hs : Sl w F2 A (entsC l)) (he : ∀ e ∈ l, EntIn w F2 e) (hap : Apart w F2 F) (hok : ∀ e ∈ l, entOk e.x = true) (hl : l.length ≤ 30) (hsz : bs.length ≤ 400000000000) :
    Calls Try.prog 82 #[.pointer (some ⟨g, 0, none⟩), .slice A l.length c] w fun e w' => e = .returned (.pointer (some ⟨g, 0, none⟩)) ∧ WrTo w F g (W8 (bs ++ entsB (l.map EntM.x))) w' := by
  have hmost : ∀ k, (entsB ((l.take k).map EntM.x)).length ≤ 5000000 := fun k => by
    have h1 := entsB_le ((l.take k).map EntM.x) (fun x hx => by
      obtain ⟨e, he, rfl⟩ := List.mem_map.1 hx
      exact hok e (List.mem_of_mem_take he))
    have h2 : ((l.take k).map EntM.x).length ≤ 30 := by rw [List.length_map, List.length_take]; omega
    omega
  have HE := Lib.hid he
  have HOK := Lib.hid hok
  have hj0 : WrTo w F g (W8 (bs ++ entsB ((l.take 0).map EntM.x))) w := ⟨F, by simpa [entsB] using h, Fr.refl _ _, fun k hk => .inl hk⟩
  clear he hok h
  go_enter Try.func82, Try.ntmps82
  go_wp2_with fail
  go_loopw [9] (fun i wr => JwRel w F g bs l i wr) (fun i _ => l.length - (intOf i).toNat)
  case atStart => exact ⟨0, by omega, rfl, hj0⟩
  case round =>
    clear hj0
    obtain ⟨k, hk, rfl, FC, hC, fC, nC⟩ := hrel
    by_cases hlt : k < l.length
    · obtain ⟨b, of, rfl, _, _, hc⟩ := (hs.fr fC hap.no).ent hlt
      have hi0 : (k : Int) < (l.length : Int) := by omega
      have ie := (HE.out _ (List.getElem_mem hlt)).fr fC hap.no
      have hsn := entsB_snoc l k hlt
      have hoke := HOK.out _ (List.getElem_mem hlt)
      obtain ⟨e, hee⟩ : ∃ e, l[k] = e := ⟨_, rfl⟩
      rw [hee] at ie hc hsn hoke
      obtain ⟨ht, hkd, hcm, hcf⟩ := entOk_sm hoke
      have hcm : e.cmd.l.length ≤ 131072 := hcm
      have ht : 0 ≤ e.term ∧ e.term ≤ 1073741824 := ht
      have hkd : 1 ≤ e.kind ∧ e.kind ≤ 3 := hkd
      have hsze : CfgSz e.cfg := cfgSz_ok hcf
      have hcv : IntKind.i64.wrap e.kind = e.kind := IntWalk.i64_in _ (by omega)
      have hcap := ie.cmd.cap
      have hmk := hmost k
      have hmk1 := hmost (k + 1)
      obtain ⟨bs0, hbs0⟩ : ∃ bs0, bs ++ entsB ((l.take k).map EntM.x) = bs0 := ⟨_, rfl⟩
      have hb0 : bs0.length ≤ 400000000000 + 5000000 := by rw [← hbs0, List.length_append]; omega
      rw [hbs0] at hC
      obtain ⟨E, hE⟩ : ∃ E, E = wr.heap.size := ⟨_, rfl⟩
      obtain ⟨V0, hV0⟩ : ∃ V, V = wr.alloc (.cells #[I64 0, U8V 0, .slice none 0 0, .slice none 0 0, .slice none 0 0, .slice none 0 0, .slice none 0 0] 60) := ⟨_, rfl⟩
      have qv0 : Nw wr V0 := by rw [hV0]; exact (Fr.refl (fun _ => False) wr).alloc _
      have g0 : Blk V0 E 60 #[I64 0, U8V 0, .slice none 0 0, .slice none 0 0, .slice none 0 0, .slice none 0 0, .slice none 0 0] := by rw [hV0, hE]; exact Blk.new _ _ _
      obtain ⟨V1, hV1⟩ : ∃ V, V = V0.setCells E 0 [I64 e.term, U8V e.kind, .slice e.cmd.a e.cmd.l.length e.cmd.c, .slice e.cfg.v.a e.cfg.v.l.length e.cfg.v.c, .slice e.cfg.o.a e.cfg.o.l.length e.cfg.o.c, .slice e.cfg.l.a e.cfg.l.l.length e.cfg.l.c, .slice e.cfg.w.a e.cfg.w.l.length e.cfg.w.c] := ⟨_, rfl⟩
      have g1 : Blk V1 E 60 #[I64 e.term, U8V e.kind, .slice e.cmd.a e.cmd.l.length e.cmd.c, .slice e.cfg.v.a e.cfg.v.l.length e.cfg.v.c, .slice e.cfg.o.a e.cfg.o.l.length e.cfg.o.c, .slice e.cfg.l.a e.cfg.l.l.length e.cfg.l.c, .slice e.cfg.w.a e.cfg.w.l.length e.cfg.w.c] := by rw [hV1]; exact Blk.setCells (l := [I64 0, U8V 0, .slice none 0 0, .slice none 0 0, .slice none 0 0, .slice none 0 0, .slice none 0 0]) g0 0 [I64 e.term, U8V e.kind, .slice e.cmd.a e.cmd.l.length e.cmd.c, .slice e.cfg.v.a e.cfg.v.l.length e.cfg.v.c, .slice e.cfg.o.a e.cfg.o.l.length e.cfg.o.c, .slice e.cfg.l.a e.cfg.l.l.length e.cfg.l.c, .slice e.cfg.w.a e.cfg.w.l.length e.cfg.w.c]
      have m1 : Fr (· = E) V0 V1 := by rw [hV1]; exact (Fr.refl (· = E) _).setCells _ _
      have qv1 : Nw wr V1 := qv0.new m1 (fun b hb => by omega)
      have th1 := Blk.there (l := [I64 0, U8V 0, .slice none 0 0, .slice none 0 0, .slice none 0 0, .slice none 0 0, .slice none 0 0]) g0 0 7 (by show 0 + 7 ≤ 7; omega)
      have one1 := entA_one e
      have hC3 := hC.fr qv1 (fun _ _ h => h)
      have hFE : ¬ FC E := fun hF => by have := hC.bound _ hF; omega
      have hS : ∀ w1, Fr FC V1 w1 → w1.cell? ⟨E, 0, none⟩ = some (I64 e.term) ∧ w1.cell? ⟨E, 1, none⟩ = some (U8V e.kind) ∧ w1.cell? ⟨E, 2, none⟩ = some (.slice e.cmd.a e.cmd.l.length e.cmd.c) := fun w1 f => by
        have a := g1.fr f hFE
        exact ⟨by simpa using a.cell 0, by simpa using a.cell 1, by simpa using a.cell 2⟩
      have hap1 : ∀ wz F', Fr FC V1 wz → (∀ k, F' k → FC k ∨ V1.heap.size ≤ k) → Apart wz F2 F' := fun wz F' f n => ((hap.fr fC nC).fr qv1 (fun _ h => .inl h)).fr f n
      have hby : ∀ wz, Fr FC V1 wz → Sl wz F2 e.cmd.a (e.cmd.l.map B8) := fun wz f => ((ie.cmd.nw qv1).fr f ((hap.fr fC nC).no)).sl
      have hr2 : ∀ x ∈ [e.term, e.kind], Right x := by
        intro z hz
        simp only [List.mem_cons, List.not_mem_nil, or_false] at hz
        rcases hz with rfl | rfl <;> exact int_right _ (by omega) (by omega)
      have M1 := encAll_le [e.term, e.kind]
      simp only [List.length_cons, List.length_nil] at M1
      have M2 := rowB_most e.cmd.l
      have l3 : ∀ w1, Fr FC V1 w1 → ∀ p u, ([.slice e.cfg.v.a e.cfg.v.l.length e.cfg.v.c, .slice e.cfg.o.a e.cfg.o.l.length e.cfg.o.c, .slice e.cfg.l.a e.cfg.l.l.length e.cfg.l.c, .slice e.cfg.w.a e.cfg.w.l.length e.cfg.w.c] : List Value)[p]? = some u → w1.cell? ⟨E, 3 + p, none⟩ = some u := fun w1 f => Blk.cells_in (l := [I64 e.term, U8V e.kind, .slice e.cmd.a e.cmd.l.length e.cmd.c, .slice e.cfg.v.a e.cfg.v.l.length e.cfg.v.c, .slice e.cfg.o.a e.cfg.o.l.length e.cfg.o.c, .slice e.cfg.l.a e.cfg.l.l.length e.cfg.l.c, .slice e.cfg.w.a e.cfg.w.l.length e.cfg.w.c]) (g1.fr f hFE) 3 4
      have hst := WrC.start (cl := [⟨6, 7, 3, #[I64 e.term, I64 e.kind], encAll [e.term, e.kind]⟩, ⟨10, 11, 38, #[.slice e.cmd.a e.cmd.l.length e.cmd.c], rowB e.cmd.l⟩]) hC3 (fun _ => (0, none))
      have hcon : ∀ w2 F', Fr FC V1 w2 → (∀ k, F' k → FC k ∨ V1.heap.size ≤ k) → IsWr w2 F' g (W8 (bs0 ++ callsB [⟨6, 7, 3, #[I64 e.term, I64 e.kind], encAll [e.term, e.kind]⟩, ⟨10, 11, 38, #[.slice e.cmd.a e.cmd.l.length e.cmd.c], rowB e.cmd.l⟩])) → Calls Try.prog 98 #[.pointer (some ⟨g, 0, none⟩), .agg #[.slice e.cfg.v.a e.cfg.v.l.length e.cfg.v.c, .slice e.cfg.o.a e.cfg.o.l.length e.cfg.o.c, .slice e.cfg.l.a e.cfg.l.l.length e.cfg.l.c, .slice e.cfg.w.a e.cfg.w.l.length e.cfg.w.c]] w2 fun e9 w' => e9 = .returned (.tuple #[]) ∧ WrTo V1 FC g (W8 (bs0 ++ entB e.x)) w' := by
        intro w2 F' f2 n2 hw2
        refine (jconfig_any w2 F' F2 g _ hw2 e.cfg ((ie.cfg.nw qv1).fr f2 ((hap.fr fC nC).no)) hsze (hap1 w2 F' f2 n2) (cfgOk_R hcf) (by simp [callsB]; omega)).mono ?_
        rintro e9 w' ⟨rfl, t⟩
        refine ⟨rfl, WrTo.after f2 n2 ?_⟩
        have e1 : bs0 ++ callsB [⟨6, 7, 3, #[I64 e.term, I64 e.kind], encAll [e.term, e.kind]⟩, ⟨10, 11, 38, #[.slice e.cmd.a e.cmd.l.length e.cmd.c], rowB e.cmd.l⟩] ++ cfgB e.cfg.x = bs0 ++ entB e.x := by simp [callsB, entB, encAll]
        rw [e1] at t
        exact t
      have HB := Lib.hid hbs0
      have HSN := Lib.hid hsn
      have HE0 := Lib.hid hE
      have HV0 := Lib.hid hV0
      have HV1 := Lib.hid hV1
      have HCON := Lib.hid hcon
      have HL3 := Lib.hid l3
      have hap3 := hap1
      clear hE hV0 hV1 hbs0 hsn hcon l3 hee hap1 g0 g1 m1 hC3
      go_upto_region 4 with (first | (refine wl_load_cells rfl 60 _ rfl b (of + k * 7) rfl [I64 e.term, U8V e.kind, .slice e.cmd.a e.cmd.l.length e.cmd.c, .slice e.cfg.v.a e.cfg.v.l.length e.cfg.v.c, .slice e.cfg.o.a e.cfg.o.l.length e.cfg.o.c, .slice e.cfg.l.a e.cfg.l.l.length e.cfg.l.c, .slice e.cfg.w.a e.cfg.w.l.length e.cfg.w.c] _ hc Try.underlying60 rfl (by kernel_rfl) ?_) | (rw [← HE0.out, ← HV0.out]; refine wpList_store_mid rfl 60 _ _ rfl E 0 #[I64 e.term, U8V e.kind, .slice e.cmd.a e.cmd.l.length e.cmd.c, .slice e.cfg.v.a e.cfg.v.l.length e.cfg.v.c, .slice e.cfg.o.a e.cfg.o.l.length e.cfg.o.c, .slice e.cfg.l.a e.cfg.l.l.length e.cfg.l.c, .slice e.cfg.w.a e.cfg.w.l.length e.cfg.w.c] rfl rfl th1 (by kernel_rfl) one1 ?_; rw [← HV1.out]))
      refine wp_region_eff2 _ _ (by kernel_rfl) (by kernel_rfl) hst ?_
      clear hst
      apply wpEff2_cons
      focus
        intro B L wz hL hD hC
        refine .inl ⟨by rfl, ?_⟩
        obtain ⟨y0, y1, y2⟩ := hS wz hC.fr
        unfold effAt
        go_simp
        exact ⟨rfl, hC.keep _ (by rfl)⟩
      simp only [Act.put, List.setIfInBounds_toArray, List.set_cons_zero, List.set_cons_succ]
      apply wpEff2_cons
      focus
        intro B L wz hL hD hC
        refine .inl ⟨by rfl, ?_⟩
        obtain ⟨y0, y1, y2⟩ := hS wz hC.fr
        unfold effAt
        go_simp
        exact ⟨rfl, hC.keep _ (by rfl)⟩
      simp only [Act.put, List.setIfInBounds_toArray, List.set_cons_zero, List.set_cons_succ]
      apply wpEff2_cons
      focus
        intro B L wz hL hD hC
        refine .inl ⟨by rfl, ?_⟩
        obtain ⟨y0, y1, y2⟩ := hS wz hC.fr
        unfold effAt
        go_simp
        exact ⟨rfl, hC.keep _ (by rfl)⟩
      simp only [Act.put, List.setIfInBounds_toArray, List.set_cons_zero, List.set_cons_succ]
      apply wpEff2_cons
      focus
        intro B L wz hL hD hC
        refine .inl ⟨by rfl, ?_⟩
        obtain ⟨y0, y1, y2⟩ := hS wz hC.fr
        unfold effAt
        go_simp
        exact ⟨rfl, hC.keep _ (by rfl)⟩
      simp only [Act.put, List.setIfInBounds_toArray, List.set_cons_zero, List.set_cons_succ]
      apply wpEff2_cons
      focus
        intro B L wz hL hD hC
        refine .inl ⟨by rfl, ?_⟩
        obtain ⟨y0, y1, y2⟩ := hS wz hC.fr
        unfold effAt
        go_simp
        exact ⟨rfl, hC.keep _ (by rfl)⟩
      simp only [Act.put, List.setIfInBounds_toArray, List.set_cons_zero, List.set_cons_succ]
      apply wpEff2_cons
      focus
        intro B L wz hL hD hC
        refine .inl ⟨by rfl, ?_⟩
        obtain ⟨y0, y1, y2⟩ := hS wz hC.fr
        unfold effAt
        go_simp
        exact ⟨rfl, hC.keep _ (by rfl)⟩
      simp only [Act.put, List.setIfInBounds_toArray, List.set_cons_zero, List.set_cons_succ]
      refine wpEff2_free (fun b => .slice (some ⟨b.1, 0, none⟩) 2 2) ?_ ?_
      focus
        intro B L wz hL hD hC
        refine .inl ⟨by rfl, ?_⟩
        unfold effAt2
        go_simp
        exact ⟨(wz.heap.size, none), rfl, hC.make 6 3 #[I64 e.term, I64 e.kind] (by intro d hd hk; simp only [List.mem_cons, List.not_mem_nil, or_false] at hd; rcases hd with rfl | rfl <;> first | exact ⟨rfl, rfl⟩ | exact absurd hk (by simp)) (by rfl)⟩
      simp only [Act.put, List.setIfInBounds_toArray, List.set_cons_zero, List.set_cons_succ]
      apply wpEff2_cons
      focus
        intro B L wz hL hD hC
        obtain ⟨F', h1, h2, h3, h4, h5⟩ := hC.call 0 _ rfl hL (hD 6 (by kernel_rfl)) (.inl rfl) (by rfl) (by rfl)
        have hfr := hC.fr
        refine .inl ⟨by rfl, ?_⟩
        unfold effAt
        go_simp
        refine (wk_nums wz F' g _ h1 (B 6).1 2 [e.term, e.kind] #[I64 e.term, I64 e.kind] h2 h3 rfl rfl (by omega) hr2 (by simp only [callsB, List.take_zero, List.map_nil, List.flatten_nil, List.append_nil]; omega)).mono ?_
        rintro e w9 ⟨rfl, ht⟩
        exact ⟨rfl, h5 _ (ht)⟩
      simp only [Act.put, List.setIfInBounds_toArray, List.set_cons_zero, List.set_cons_succ]
      apply wpEff2_cons
      focus
        intro B L wz hL hD hC
        refine .inl ⟨by rfl, ?_⟩
        obtain ⟨y0, y1, y2⟩ := hS wz hC.fr
        unfold effAt
        go_simp
        exact ⟨rfl, hC.keep _ (by rfl)⟩
      simp only [Act.put, List.setIfInBounds_toArray, List.set_cons_zero, List.set_cons_succ]
      apply wpEff2_cons
      focus
        intro B L wz hL hD hC
        refine .inl ⟨by rfl, ?_⟩
        obtain ⟨y0, y1, y2⟩ := hS wz hC.fr
        unfold effAt
        go_simp
        exact ⟨rfl, hC.keep _ (by rfl)⟩
      simp only [Act.put, List.setIfInBounds_toArray, List.set_cons_zero, List.set_cons_succ]
      refine wpEff2_free (fun b => .slice (some ⟨b.1, 0, none⟩) 1 1) ?_ ?_
      focus
        intro B L wz hL hD hC
        refine .inl ⟨by rfl, ?_⟩
        unfold effAt2
        go_simp
        exact ⟨(wz.heap.size, none), rfl, hC.make 10 38 #[.slice e.cmd.a e.cmd.l.length e.cmd.c] (by intro d hd hk; simp only [List.mem_cons, List.not_mem_nil, or_false] at hd; rcases hd with rfl | rfl <;> first | exact ⟨rfl, rfl⟩ | exact absurd hk (by simp)) (by rfl)⟩
      simp only [Act.put, List.setIfInBounds_toArray, List.set_cons_zero, List.set_cons_succ]
      apply wpEff2_cons
      focus
        intro B L wz hL hD hC
        obtain ⟨F', h1, h2, h3, h4, h5⟩ := hC.call 1 _ rfl hL (hD 10 (by kernel_rfl)) (.inr ⟨0, _, rfl, rfl, hD 7 (by kernel_rfl)⟩) (by rfl) (by rfl)
        have hfr := hC.fr
        refine .inl ⟨by rfl, ?_⟩
        unfold effAt
        go_simp
        refine (wk_row wz F' _ g _ h1 (B 10).1 e.cmd.a e.cmd.c e.cmd.l h2 h3 (hby wz hfr) (hap3 wz F' hfr h4) (by omega) hcap.1 hcap.2 (by simp [callsB]; omega)).mono ?_
        rintro e w9 ⟨rfl, ht⟩
        exact ⟨rfl, h5 _ (ht)⟩
      simp only [Act.put, List.setIfInBounds_toArray, List.set_cons_zero, List.set_cons_succ]
      refine wpEff2_nil fun B w11 hC5 => ?_
      obtain ⟨FD, hD, fD, nD⟩ := hC5.done (by intro d hd; simp only [List.mem_cons, List.not_mem_nil, or_false] at hd; rcases hd with rfl | rfl <;> rfl)
      have hcc := HCON.out w11 FD fD nD hD
      have hl3 := HL3.out w11 fD
      clear hC5 hD hS hby hap3
      go_wp2_with (refine wl_load_cells rfl 35 _ rfl E 3 rfl [.slice e.cfg.v.a e.cfg.v.l.length e.cfg.v.c, .slice e.cfg.o.a e.cfg.o.l.length e.cfg.o.c, .slice e.cfg.l.a e.cfg.l.l.length e.cfg.l.c, .slice e.cfg.w.a e.cfg.w.l.length e.cfg.w.c] _ hl3 Try.underlying35 rfl (by kernel_rfl) ?_)
      refine hcc.mono ?_
      rintro e9 w12 ⟨rfl, t⟩
      go_wp2_with fail
      go_roundw
      case rel =>
        refine ⟨k + 1, by omega, by go_num, ?_⟩
        rw [HSN.out, ← List.append_assoc, HB.out]
        exact WrTo.after fC nC (WrTo.after (Nw.on qv1) (fun _ h => .inl h) t)
      case measure => simp [intOf]; omega
    · obtain rfl : k = l.length := by omega
      go_wp2_with fail
      go_ret
      rw [List.take_of_length_le (Nat.le_refl _)] at hC
      exact ⟨rfl, FC, hC, fC, nC⟩
end Go.Proofs.Ytippdjaakcgeoaa
