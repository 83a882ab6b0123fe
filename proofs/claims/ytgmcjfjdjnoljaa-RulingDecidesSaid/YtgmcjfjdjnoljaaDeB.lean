/- Rulings: what is decided is as the document says: the walk. -/
import Derived.Test.YtgmcjfjdjnoljaaDeA
namespace Go.Proofs.Ytgmcjfjdjnoljaa
open Go Go.RowKit

/-- The books at a round of the first loop. -/
def DeMid (w : World) (gB gM j : Nat) (B : List Ver) (cv dv : Value) (wx : World) : Prop :=
  ∃ C gC gD F, C.length ≤ j ∧ BookOk C ∧ cv = .pointer (some ⟨gC, 0, none⟩) ∧ dv = .pointer (some ⟨gD, 0, none⟩) ∧ Four w (fun _ => False) F gB gM gC gD B B C C wx
def DeRel (w : World) (gB gM n : Nat) (l : List Ver) (cv dv rv i : Value) (wx : World) : Prop :=
  ∃ (j : Nat) (B : List Ver), j ≤ n ∧ i = .int .i64 j ∧ B.length ≤ j ∧ BookOk B ∧ rv = .bool ((l.take j).all verOk) ∧ DeMid w gB gM j B cv dv wx
def De2Rel (w : World) (gB gM gC gD n : Nat) (B : List Ver) (i : Value) (wx : World) : Prop :=
  ∃ (t : Nat) (z : Int) (C : List Ver) (F : Nat → Nat → Prop), t ≤ n ∧ i = .int .i64 z ∧ z = (t : Int) - 1 ∧ C.length + t ≤ 2 * n ∧ BookOk C ∧ Four w (fun _ => False) F gB gM gC gD B B C C wx
set_option maxRecDepth 100000 in
set_option maxHeartbeats 8000000 in
theorem decides_walk (w : World) (A : Option Addr) (c : Nat) (l : List Ver) (vcs : List Value) (x : Int) (Ac : Option Addr) (cc : Nat) (cm : List Bool) (hs : Sl w (· < w.heap.size) A vcs) (hv : VersC w (· < w.heap.size) l vcs) (hl : l.length ≤ 3000000000000) (hz : ∀ v ∈ l, NmWf v.1 ∧ v.2.2.2.length ≤ maxLen ∧ ∀ r ∈ v.2.2.2, RdgLen2 r) (hx : -9223372036854775808 ≤ x ∧ x ≤ 9223372036854775807)
    (hc : Sl w (· < w.heap.size) Ac (cm.map Value.bool)) :
    Calls Try.prog 3 #[.slice A l.length c, .int .i64 x, .slice Ac cm.length cc] w fun e w' => e = .returned (.bool true) ∧ Nw w w' := by
  have haw := fun w1 => awake19 w1
  have hgr := great_any w _ _ A c l vcs hs hv hl (fun v h => (hz v h).2)
  obtain ⟨n, hn⟩ : ∃ n, n = l.length := ⟨_, rfl⟩
  obtain ⟨nc, hnc⟩ : ∃ nc, nc = cm.length := ⟨_, rfl⟩
  rw [← hn] at hl hgr ⊢
  rw [← hnc]
  have HN := Lib.hid hn
  have HNC := Lib.hid hnc
  clear hn hnc
  go_enter Try.func3, Try.ntmps3
  go_wp2_with fail
  refine hgr.mono ?_
  rintro e w2 ⟨b, rfl, hb, q2⟩
  cases b with
  | true =>
    go_wp2_with fail
    refine (haw _).mono ?_
    rintro e w3 ⟨rfl, q3⟩
    go_wp2_with fail
    go_ret
    exact ⟨rfl, q2.tr q3⟩
  | false =>
    obtain ⟨hn150', hsm⟩ := hb rfl
    have hn150 : n ≤ 150 := by rw [HN.out]; exact hn150'
    clear hb hn150'
    by_cases hc10 : nc > 10
    · have hci : (10 : Int) < (nc : Int) := by omega
      go_wp2_with fail
      refine (haw _).mono ?_
      rintro e w3 ⟨rfl, q3⟩
      go_wp2_with fail
      go_ret
      exact ⟨rfl, q2.tr q3⟩
    have hci : ¬ (10 : Int) < (nc : Int) := by omega
    go_wp2_with fail
    refine (bkNew_any w2).mono ?_
    rintro e w3 ⟨gB, FB, rfl, hb3, q3, hFB⟩
    obtain ⟨w4, hw4⟩ : ∃ w4, w4 = w3.alloc (.cells #[.slice none 0 0] 31) := ⟨_, rfl⟩
    have q4 : Nw w3 w4 := by rw [hw4]; exact (Fr.refl (fun _ => False) w3).alloc _
    have hm4 : IsRB w4 (· = w3.heap.size) w3.heap.size [] := by
      rw [hw4]
      exact ⟨none, 0, [], fun _ => False, Blk.new w3 31 #[.slice none 0 0], Own.nil _ _ _, VersC.nil _ _, rfl, fun k hk => (inA_none k hk).elim, fun k hk => hk.elim, fun k hk => by subst hk; simp⟩
    have HW4 := Lib.hid hw4
    clear hw4
    have hb4 := hb3.fr q4 (fun _ _ h => h)
    have hp := pick_any w4 x ((n : Int) + 1) (by omega) (by omega) hx
    have hw1 : wrap64 ((n : Int) + 1) = (n : Int) + 1 := by unfold wrap64; omega
    go_upto_region 4 with (fail)
    rw [← HW4.out]
    go_wp2_with fail
    refine hp.mono ?_
    rintro e w4 ⟨⟨k, hk, rfl⟩, rfl⟩
    go_wp2_with fail
    refine (bkCopy_any _ FB gB [] hb4 bookOk_nil (by simp)).mono ?_
    rintro e w5 ⟨gC, FC, rfl, hc5, hFC, q5⟩
    go_wp2_with fail
    refine (rbCopy_any _ _ w3.heap.size [] (hm4.fr q5 (fun _ _ h => h)) (fun v h => by cases h) (by simp)).mono ?_
    rintro e w6 ⟨gD, FD, rfl, hd6, hFD, q6⟩
    have hmid : DeMid w gB w3.heap.size 0 [] (.pointer (some ⟨gC, 0, none⟩)) (.pointer (some ⟨gD, 0, none⟩)) w6 := by
      have s2 := q2.size
      have s3 := q3.size
      have s4 := q4.size
      have s5 := q5.size
      have s6 := q6.size
      have lB := hb3.lt
      have lM := hm4.lt
      have lC := hc5.lt
      have lD := hd6.lt
      refine ⟨[], gC, gD, _, Nat.le_refl _, bookOk_nil, rfl, rfl, Four.start (n1 := w3.heap.size) (n2 := w4.heap.size) (n3 := w5.heap.size) ((hb4.fr q5 (fun _ _ h => h)).fr q6 (fun _ _ h => h)) ((hm4.fr q5 (fun _ _ h => h)).fr q6 (fun _ _ h => h)) (hc5.fr q6 (fun _ _ h => h)) hd6 ((((q2.tr q3).tr q4).tr q5).tr q6) (by omega) s4 s5 (fun q h => ⟨by have := hFB q h; omega, lB q h⟩) (fun q h => ⟨by omega, lM q h⟩) (fun q h => ⟨hFC q h, lC q h⟩) hFD⟩
    clear hc5 hFC hd6 hFD hb4 hm4 hb3 hFB
    go_wp2_with fail
    go_loopw [10, 11, 12, 13] (fun cv dv rv i wx => DeRel w gB w3.heap.size n l cv dv rv i wx) (fun _ _ _ i _ => n - (intOf i).toNat)
    case atStart => exact ⟨0, [], Nat.zero_le _, rfl, Nat.le_refl _, bookOk_nil, rfl, hmid⟩
    case round =>
      clear hmid q6 q5 q4 q3 q2 hw1
      obtain ⟨j, B, hj, rfl, hBj, hbo, rfl, hmid⟩ := hrel
      by_cases hjn : j < n
      · have hjl : j < l.length := by rw [← HN.out]; exact hjn
        obtain ⟨bA, oA, A', c', rfl, _, hcell, hc1, hc2, hs'⟩ := hs.ver hv hjl
        have hzv := hz _ (List.getElem_mem hjl)
        have hsv := small_sz (hsm _ (List.getElem_mem hjl))
        have hal := all_succ l j hjl
        obtain ⟨v, hvj⟩ : ∃ v, l[j] = v := ⟨_, rfl⟩
        rw [hvj] at hcell hc1 hs' hzv hsv hal
        have hnw := hzv.1
        obtain ⟨rv, hrv⟩ : ∃ rv, (l.take j).all verOk = rv := ⟨_, rfl⟩
        rw [hrv] at hal ⊢
        have HAL := Lib.hid hal
        clear hvj hzv hrv hal
        have hB150 : B.length ≤ 150 := Nat.le_trans hBj (Nat.le_trans hj hn150)
        go_upto_if 56 with (fail)
        go_cut [10, 11] (fun cv dv wx => DeMid w gB w3.heap.size j B cv dv wx)
        case first =>
          obtain ⟨C, gC, gD, F, hCj, hco, rfl, rfl, hF⟩ := hmid
          by_cases hjk : j = k
          · obtain rfl : j = k := hjk
            go_wp2_with fail
            refine (bkCopy_any wr (F 0) gB B hF.b hbo (by omega)).mono ?_
            rintro e wa ⟨gC2, GC, rfl, hC2, hGC, qa⟩
            go_wp2_with fail
            refine (rbCopy_any wa (F 1) _ B (hF.m.fr qa (fun _ _ h => h)) (bookOk_sz hbo) (by omega)).mono ?_
            rintro e wb ⟨gD2, GD, rfl, hD2, hGD, qb⟩
            go_wp2_with fail
            go_meet
            exact ⟨B, gC2, gD2, _, hBj, hbo, rfl, rfl, (hF.copyC hC2 qa hGC).copyD hD2 qb hGD⟩
          · go_wp2_with fail
            go_meet
            exact ⟨C, gC, gD, F, hCj, hco, rfl, rfl, hF⟩
        case rest =>
          clear hmid
          obtain ⟨C, gC, gD, F, hCj, hco, rfl, rfl, hF⟩ := hcut
          obtain ⟨w0, hw0⟩ : ∃ w0, w0 = wc := ⟨_, rfl⟩
          rw [← hw0] at hF ⊢
          clear hw0
          have hclw : ∀ wx, Nw w wx → ∀ p u, (verL v A' c')[p]? = some u → wx.cell? ⟨bA, oA + j * 5 + p, none⟩ = some u := fun wx qx p u hu => (qx.cell (World.block_lt_of_cell? _ _ (hcell p u hu)) (fun h => h)).trans (hcell p u hu)
          have hcl1 := hclw w0 hF.q
          obtain ⟨rl, hrl⟩ : ∃ rl, v.2.2.2.length = rl := ⟨_, rfl⟩
          have HRL := Lib.hid hrl
          obtain ⟨W1, hW1⟩ : ∃ W1, W1 = w0.alloc (.cells #[.int .i64 v.1.1, .int .i64 v.1.2, .bool v.2.1, .int .i64 v.2.2.1, .slice A' v.2.2.2.length c'] 38) := ⟨_, rfl⟩
          have q11 : Nw w0 W1 := by rw [hW1]; exact (Fr.refl (fun _ => False) w0).alloc _
          have hI1 : Blk W1 w0.heap.size 38 #[I64 v.1.1, I64 v.1.2, .bool v.2.1, I64 v.2.2.1, .slice A' v.2.2.2.length c'] := by rw [hW1]; exact Blk.new w0 38 _
          have HW1 := Lib.hid hW1
          clear hW1 hrl
          have hcl2 := hclw W1 (hF.q.tr q11)
          have hlen := lent_reads W1 _ A' c' v.2.2.2 (hs'.fr (hF.q.tr q11) (fun _ _ h => h)) hsv.1
          go_upto_region 14 with (refine wl_load_cells rfl 38 _ rfl bA (oA + j * 5) rfl (verL v A' c') _ hcl1 Try.underlying38 rfl ver_size ?_)
          rw [← HW1.out]
          have hw4 : W1.cell? ⟨bA, oA + j * 5 + 4, none⟩ = some (.slice A' v.2.2.2.length c') := hcl2 4 _ rfl
          go_wp2_with fail
          refine hlen.mono ?_
          rintro e wd ⟨gL, rfl, hLe, qd, hgL⟩
          have hI2 := hI1.fr qd (fun h => h)
          have i4 : wd.cell? ⟨w0.heap.size, 4, none⟩ = some (.slice A' v.2.2.2.length c') := (cells5 hI2).2.2.2.2
          have if4 := hI2.frozen 4
          obtain ⟨W2, hW2⟩ : ∃ W2, W2 = wd.setCell ⟨w0.heap.size, 4, none⟩ (.slice (some ⟨gL, 0, none⟩) v.2.2.2.length (v.2.2.2.length + 12)) := ⟨_, rfl⟩
          have hI3 : Blk W2 w0.heap.size 38 #[I64 v.1.1, I64 v.1.2, .bool v.2.1, I64 v.2.2.1, .slice (some ⟨gL, 0, none⟩) v.2.2.2.length (v.2.2.2.length + 12)] := by rw [hW2]; exact hI2.set_ 4 _
          have qd2 : Fr (· = w0.heap.size) wd W2 := by rw [hW2]; exact (Fr.refl (· = w0.heap.size) wd).setCell (p := ⟨w0.heap.size, 4, none⟩) (.inl rfl) _
          have q12 : Nw w0 W2 := (q11.tr qd).trans qd2 (fun q h => .inr (by omega))
          have hgI : w0.heap.size < W1.heap.size := hI1.lt
          have hLe3 : LentRd W2 gL v.2.2.2 := hLe.fr qd2 (by omega)
          have hgL2 := hLe3.lt
          have HW2 := Lib.hid hW2
          clear hW2
          go_upto_region 15 with (fail)
          rw [← HW2.out]
          have hF2 := hF.more q12 (X' := fun q => q = w0.heap.size ∨ q = gL) (fun q h => .inr (by have := q12.size; have := hI3.lt; omega))
          have hsW := fun w1 (q : Nw W2 w1) => hs'.fr (hF2.q.tr q) (fun _ _ h => h)
          have hclW := fun w1 (q : Nw W2 w1) => hclw w1 (hF2.q.tr q)
          obtain ⟨r2, hr2⟩ : ∃ r2, (l.take (j + 1)).all verOk = r2 := ⟨_, rfl⟩
          have hal2 : r2 = (rv && verOk v) := by rw [← hr2]; exact HAL.out
          have HR2 := Lib.hid hr2
          have HAL2 := Lib.hid hal2
          clear hr2 hal2 hI1 hI2 i4 if4 hLe hlen hw4 hcl1 hcl2 q11 qd qd2 hcell hF
          go_cut [12] (fun r wx => r = .bool r2 ∧ Nw W2 wx)
          case first =>
            cases rv with
            | false =>
              have e : r2 = false := HAL2.out
              go_wp2_with fail
              go_meet
              exact ⟨by rw [e], Fr.refl _ _⟩
            | true =>
              have e : r2 = verOk v := HAL2.out
              obtain ⟨k0, k1, k2, k3, k4⟩ := cellsL (hclW W2 (Fr.refl _ _))
              go_wp2_with fail
              refine (turned_any W2 v A' c').mono ?_
              rintro e wa ⟨rfl, qa⟩
              go_wp2_with fail
              refine (rright_any wa _ v A' c' (hsW wa qa) hsv.2 hsv.1).mono ?_
              rintro e wb ⟨rfl, qb⟩
              go_wp2_with fail
              go_meet
              exact ⟨by rw [e], qa.tr qb⟩
          case rest =>
            obtain ⟨rfl, q23⟩ := hcut
            obtain ⟨w23, hw23⟩ : ∃ w23, w23 = wc := ⟨_, rfl⟩
            rw [← hw23] at q23 ⊢
            clear hw23
            have hF3 := hF2.nw q23
            have hI4 := hI3.fr q23 (fun h => h)
            have hLe4 := hLe3.fr q23 (fun h => h)
            have hsW := fun w1 (q : Nw w w1) => hs'.fr q (fun _ _ h => h)
            obtain ⟨xv, er, B2, hd⟩ : ∃ xv er B2, decV B v = (xv, er, B2) := ⟨_, _, _, rfl⟩
            have hbw := dec_ways hd hbo
            have hbo2 : BookOk B2 := hbw.1
            have hlen2 : B2.length ≤ B.length + 1 := hbw.2.1
            have hxl : xv.2.2.2.length ≤ 1000000000 := dec_told hd hbo hsv.1
            have hm12 : v.2.2.2.length + 12 ≤ maxLen := by have := hsv.1; unfold maxLen; omega
            have hdec := bkDecide_any w23 (F 0) _ gB B hF3.b v (some ⟨gL, 0, none⟩) (v.2.2.2.length + 12) hLe4.row (fun q h => hF3.farX 0 q (.inr h)) (Nat.le_add_right _ _) hm12 hsv (bookOk_sz hbo) hnw (by omega)
            rw [hd] at hdec
            clear hbw hI3 hLe3 hF2
            go_wp2_with (refine wpList_load_row rfl 38 _ rfl w0.heap.size rfl 38 _ (0, 0) _ hI4 Try.underlying38 rfl ver_size ?_)
            refine hdec.mono ?_
            rintro e wd ⟨Ax, cx, G, rfl, hx1, hx2, hxs, hb2, fd, hG⟩
            have hF4 := hF3.decB hb2 fd hG
            have hI5 := hI4.fr fd (hF3.farX 0 _ (.inl rfl))
            have hLe5 := hLe4.fr fd (hF3.farX 0 _ (.inr rfl))
            have hxs : Sl wd (fun k => w23.heap.size ≤ k ∧ ¬ G k) Ax (rdgsCells xv.2.2.2) := hxs
            obtain ⟨W3, hW3⟩ : ∃ W3, W3 = wd.alloc (.cells #[.int .i64 xv.1.1, .int .i64 xv.1.2, .bool xv.2.1, .int .i64 xv.2.2.1, .slice Ax xv.2.2.2.length cx] 38) := ⟨_, rfl⟩
            have q33 : Nw wd W3 := by rw [hW3]; exact (Fr.refl (fun _ => False) wd).alloc _
            have hX3 : Blk W3 wd.heap.size 38 #[I64 xv.1.1, I64 xv.1.2, .bool xv.2.1, I64 xv.2.2.1, .slice Ax xv.2.2.2.length cx] := by rw [hW3]; exact Blk.new wd 38 _
            have HW3 := Lib.hid hW3
            clear hW3
            go_upto_region 17 with (fail)
            rw [← HW3.out]
            obtain ⟨X5, xI, xL, xX, xA, hF5⟩ : ∃ X5 : Nat → Prop, X5 w0.heap.size ∧ X5 gL ∧ X5 wd.heap.size ∧ (∀ q, w23.heap.size ≤ q ∧ q < wd.heap.size ∧ ¬ G q → X5 q) ∧ Four w X5 (upd F 0 G) gB w3.heap.size gC gD B2 B C C W3 :=
              ⟨fun q => Xn (fun q => q = w0.heap.size ∨ q = gL) w23 wd G q ∨ q = wd.heap.size, .inl (.inl (.inl rfl)), .inl (.inl (.inr rfl)), .inr rfl, fun q h => .inl (.inr h), hF4.more q33 (fun q h => h.elim .inl (fun h => .inr (by have := hX3.lt; omega)))⟩
            generalize upd F 0 G = F5 at hF5
            have hxs5 := (hxs.mono (F' := X5) fun q h hlt => xA q ⟨h.1, hlt, h.2⟩).fr q33 (fun _ _ h => h)
            have hI6 := hI5.fr q33 (fun h => h)
            have hLe6 := hLe5.fr q33 (fun h => h)
            clear hF4 hF3 hI4 hI5 hLe4 hLe5 hdec hxs xA hb2 fd hG q33
            have hcl3 := hclw W3 hF5.q
            go_wp2_with (refine wl_load_cells rfl 38 _ rfl bA (oA + j * 5) rfl (verL v A' c') _ hcl3 Try.underlying38 rfl ver_size ?_)
            refine (turned_any W3 v A' c').mono ?_
            rintro e wt ⟨rfl, qt⟩
            have hF6 := hF5.nw qt
            have hdec2 := rbDecide_any wt (F5 1) _ w3.heap.size B hF6.m v A' c' (hsW wt hF6.q) (fun q h => hF6.farO 1 q h) hsv (bookOk_sz hbo) (by omega)
            rw [hd] at hdec2
            go_wp2_with fail
            refine hdec2.mono ?_
            rintro e we ⟨Ay, cy, G2, rfl, hy1, hy2, hys, hm2, fe, hG2⟩
            have hF7 := hF6.decM hm2 fe hG2
            have f35 : Fr (F5 1) W3 we := (Nw.on qt).tr fe
            have hI7 := hI6.fr f35 (hF5.farX 1 _ xI)
            have hLe7 := hLe6.fr f35 (hF5.farX 1 _ xL)
            have hX7 := hX3.fr f35 (hF5.farX 1 _ xX)
            have hxs7 := hxs5.fr f35 (hF5.farX 1)
            have hys : Sl we (fun k => wt.heap.size ≤ k ∧ ¬ G2 k) Ay (rdgsCells xv.2.2.2) := hys
            obtain ⟨xl, hxl0⟩ : ∃ xl, xv.2.2.2.length = xl := ⟨_, rfl⟩
            obtain ⟨W4, hW4⟩ : ∃ W4, W4 = we.alloc (.cells #[.int .i64 xv.1.1, .int .i64 xv.1.2, .bool xv.2.1, .int .i64 xv.2.2.1, .slice Ay xl cy] 41) := ⟨_, rfl⟩
            have q44 : Nw we W4 := by rw [hW4]; exact (Fr.refl (fun _ => False) we).alloc _
            have hY8 : Blk W4 we.heap.size 41 #[I64 xv.1.1, I64 xv.1.2, .bool xv.2.1, I64 xv.2.2.1, .slice Ay xl cy] := by rw [hW4]; exact Blk.new we 41 _
            have HW4 := Lib.hid hW4
            clear hW4
            obtain ⟨X8, xI, xL, xX, xA, xY, xB, hF8⟩ : ∃ X8 : Nat → Prop, X8 w0.heap.size ∧ X8 gL ∧ X8 wd.heap.size ∧ (∀ q, X5 q → X8 q) ∧ X8 we.heap.size ∧ (∀ q, wt.heap.size ≤ q ∧ q < we.heap.size ∧ ¬ G2 q → X8 q) ∧ Four w X8 (upd F5 1 G2) gB w3.heap.size gC gD B2 B2 C C W4 :=
              ⟨fun q => Xn X5 wt we G2 q ∨ q = we.heap.size, .inl (.inl xI), .inl (.inl xL), .inl (.inl xX), fun q h => .inl (.inl h), .inr rfl, fun q h => .inl (.inr h), hF7.more q44 (fun q h => h.elim .inl (fun h => .inr (by have := hY8.lt; omega)))⟩
            generalize upd F5 1 G2 = F8 at hF8
            have hys8 := (hys.mono (F' := X8) fun q h hlt => xB q ⟨h.1, hlt, h.2⟩).fr q44 (fun _ _ h => h)
            have hxs8 := (hxs7.mono (F' := X8) fun q h _ => xA q h).fr q44 (fun _ _ h => h)
            have hI8 := hI7.fr q44 (fun h => h)
            have hLe8 := hLe7.fr q44 (fun h => h)
            have hX8 := hX7.fr q44 (fun h => h)
            clear hF7 hF6 hF5 hI6 hI7 hLe6 hLe7 hX7 hX3 hxs5 hxs7 hdec2 hys xA xB hm2 fe hG2 f35 qt hcl3
            -- the great region
            obtain ⟨Am, capm, csm, Im, hbm, _⟩ := id hF8.m
            obtain ⟨mB, hmB⟩ : ∃ mB, B2.length = mB := ⟨_, rfl⟩
            obtain ⟨rl, hrl⟩ : ∃ rl, v.2.2.2.length = rl := ⟨_, rfl⟩
            have hS : ∀ w', Nw W4 w' → w'.cell? ⟨wd.heap.size, 0, none⟩ = some (I64 xv.1.1) ∧ w'.cell? ⟨wd.heap.size, 1, none⟩ = some (I64 xv.1.2) ∧ w'.cell? ⟨wd.heap.size, 2, none⟩ = some (.bool xv.2.1) ∧ w'.cell? ⟨wd.heap.size, 3, none⟩ = some (I64 xv.2.2.1) ∧ w'.cell? ⟨wd.heap.size, 4, none⟩ = some (.slice Ax xl cx) ∧ w'.cell? ⟨we.heap.size, 0, none⟩ = some (I64 xv.1.1) ∧ w'.cell? ⟨we.heap.size, 1, none⟩ = some (I64 xv.1.2) ∧ w'.cell? ⟨we.heap.size, 2, none⟩ = some (.bool xv.2.1) ∧ w'.cell? ⟨we.heap.size, 3, none⟩ = some (I64 xv.2.2.1) ∧ w'.cell? ⟨we.heap.size, 4, none⟩ = some (.slice Ay xl cy) ∧ w'.cell? ⟨w0.heap.size, 0, none⟩ = some (I64 v.1.1) ∧ w'.cell? ⟨w0.heap.size, 1, none⟩ = some (I64 v.1.2) ∧ w'.cell? ⟨w0.heap.size, 2, none⟩ = some (.bool v.2.1) ∧ w'.cell? ⟨w0.heap.size, 3, none⟩ = some (I64 v.2.2.1) ∧ w'.cell? ⟨w0.heap.size, 4, none⟩ = some (.slice (some ⟨gL, 0, none⟩) rl (rl + 12)) ∧ w'.cell? ⟨bA, oA + j * 5, none⟩ = some (I64 v.1.1) ∧ w'.cell? ⟨bA, oA + j * 5 + 1, none⟩ = some (I64 v.1.2) ∧ w'.cell? ⟨bA, oA + j * 5 + 2, none⟩ = some (.bool v.2.1) ∧ w'.cell? ⟨bA, oA + j * 5 + 3, none⟩ = some (I64 v.2.2.1) ∧ w'.cell? ⟨bA, oA + j * 5 + 4, none⟩ = some (.slice A' rl c') ∧ w'.cell? ⟨w3.heap.size, 0, none⟩ = some (.slice Am mB capm) := fun w' f => by
              obtain ⟨a0, a1, a2, a3, a4⟩ := cells5 (hI8.fr f (fun h => h))
              obtain ⟨x0, x1, x2, x3, x4⟩ := cells5 (hX8.fr f (fun h => h))
              obtain ⟨y0, y1, y2, y3, y4⟩ := cells5 (hY8.fr f (fun h => h))
              obtain ⟨b0, b1, b2, b3, b4⟩ := cellsL (hclw w' (hF8.q.tr f))
              have mm : w'.cell? ⟨w3.heap.size, 0, none⟩ = some (.slice Am B2.length capm) := by simpa using (hbm.fr f (fun h => h)).cell 0
              rw [hrl] at a4 b4
              rw [hxl0] at x4
              rw [hmB] at mm
              exact ⟨x0, x1, x2, x3, x4, y0, y1, y2, y3, y4, a0, a1, a2, a3, a4, b0, b1, b2, b3, b4, mm⟩
            obtain ⟨vo, hvo⟩ : ∃ vo, verOk v = vo := ⟨_, rfl⟩
            have cS : ∀ w1, Nw W4 w1 → Calls Try.prog 17 #[.agg #[I64 xv.1.1, I64 xv.1.2, .bool xv.2.1, I64 xv.2.2.1, .slice Ax xl cx], .agg #[I64 xv.1.1, I64 xv.1.2, .bool xv.2.1, I64 xv.2.2.1, .slice Ay xl cy]] w1 fun e w' => e = .returned (.bool true) ∧ Nw w1 w' := fun w1 f => by
              have h := same_any w1 _ _ xv xv Ax Ay cx cy (hxs8.fr f (fun _ _ h => h)) (hys8.fr f (fun _ _ h => h)) hxl
              rw [sameV_refl] at h
              rw [← hxl0]
              exact h
            have cK : ∀ w1, Nw W4 w1 → Calls Try.prog 18 #[.slice (some ⟨gL, 0, none⟩) rl (rl + 12), .slice A' rl c'] w1 fun e w' => e = .returned (.bool true) ∧ Nw w1 w' := fun w1 f => by
              rw [← hrl]
              exact kept_reads w1 _ gL A' c' v.2.2.2 (hLe8.fr f (fun h => h)) (hsW w1 (hF8.q.tr f)) hsv.1
            have cR : ∀ w1, Nw W4 w1 → ∀ g, g = w1.heap.size → Calls Try.prog 19 #[.slice (some ⟨g, 0, none⟩) 1 1] (w1.alloc (.cells #[I64 v.1.1, I64 v.1.2, .bool v.2.1, I64 v.2.2.1, .slice (some ⟨gL, 0, none⟩) rl (rl + 12)] 38)) fun e w' => e = .returned (.bool vo) ∧ Nw w1 w' := fun w1 f g hg => by
              rw [← hrl, ← hvo]
              exact right_one w1 _ v (some ⟨gL, 0, none⟩) (v.2.2.2.length + 12) ((hLe8.fr f (fun h => h)).row) (Nat.le_add_right _ _) hm12 hsv g hg
            have cT : ∀ w1, Calls Try.prog 14 #[.agg #[I64 v.1.1, I64 v.1.2, .bool v.2.1, I64 v.2.2.1, .slice A' rl c']] w1 fun e w' => e = .returned (.agg #[I64 v.1.1, I64 v.1.2, .bool v.2.1, I64 v.2.2.1, .slice A' rl c']) ∧ Nw w1 w' := fun w1 => by
              rw [← hrl]
              exact turned_any w1 v A' c'
            have cD : ∀ w1, Nw W4 w1 → Calls Try.prog 13 #[.agg #[I64 v.1.1, I64 v.1.2, .bool v.2.1, I64 v.2.2.1, .slice A' rl c']] w1 fun e w' => e = .returned (.bool vo) ∧ Nw w1 w' := fun w1 f => by
              rw [← hrl, ← hvo]
              exact rright_any w1 _ v A' c' (hsW w1 (hF8.q.tr f)) hsv.2 hsv.1
            have cM : ∀ w1, Nw W4 w1 → Calls Try.prog 20 #[.pointer (some ⟨gB, 0, none⟩)] w1 fun e w' => e = .returned (.int .i64 (mB : Nat)) ∧ w1 = w' := fun w1 f => by
              rw [← hmB]
              exact bkMany_any w1 (F8 0) gB B2 (hF8.b.fr f (fun _ _ h => h))
            have Q0 : Nw W4 W4.drew := (Fr.refl (fun _ => False) W4).drew
            have hji : (j : Int) < (n : Int) := by omega
            have HXL := Lib.hid hxl0
            have HRL2 := Lib.hid hrl
            have HMB := Lib.hid hmB
            simp only [hrl] at hI8
            clear hmB hrl hvo hxl0
            go_upto_region 18 with (fail)
            try rw [HXL.out]
            rw [← HW4.out]
            go_cut [138] (fun gv wx => gv = .bool false ∧ Nw W4 wx)
            case first =>
              go_region_held3 (fun w' => w'.cell? ⟨wd.heap.size, 0, none⟩ = some (I64 xv.1.1) ∧ w'.cell? ⟨wd.heap.size, 1, none⟩ = some (I64 xv.1.2) ∧ w'.cell? ⟨wd.heap.size, 2, none⟩ = some (.bool xv.2.1) ∧ w'.cell? ⟨wd.heap.size, 3, none⟩ = some (I64 xv.2.2.1) ∧ w'.cell? ⟨wd.heap.size, 4, none⟩ = some (.slice Ax xl cx) ∧ w'.cell? ⟨we.heap.size, 0, none⟩ = some (I64 xv.1.1) ∧ w'.cell? ⟨we.heap.size, 1, none⟩ = some (I64 xv.1.2) ∧ w'.cell? ⟨we.heap.size, 2, none⟩ = some (.bool xv.2.1) ∧ w'.cell? ⟨we.heap.size, 3, none⟩ = some (I64 xv.2.2.1) ∧ w'.cell? ⟨we.heap.size, 4, none⟩ = some (.slice Ay xl cy) ∧ w'.cell? ⟨w0.heap.size, 0, none⟩ = some (I64 v.1.1) ∧ w'.cell? ⟨w0.heap.size, 1, none⟩ = some (I64 v.1.2) ∧ w'.cell? ⟨w0.heap.size, 2, none⟩ = some (.bool v.2.1) ∧ w'.cell? ⟨w0.heap.size, 3, none⟩ = some (I64 v.2.2.1) ∧ w'.cell? ⟨w0.heap.size, 4, none⟩ = some (.slice (some ⟨gL, 0, none⟩) rl (rl + 12)) ∧ w'.cell? ⟨bA, oA + j * 5, none⟩ = some (I64 v.1.1) ∧ w'.cell? ⟨bA, oA + j * 5 + 1, none⟩ = some (I64 v.1.2) ∧ w'.cell? ⟨bA, oA + j * 5 + 2, none⟩ = some (.bool v.2.1) ∧ w'.cell? ⟨bA, oA + j * 5 + 3, none⟩ = some (I64 v.2.2.1) ∧ w'.cell? ⟨bA, oA + j * 5 + 4, none⟩ = some (.slice A' rl c') ∧ w'.cell? ⟨w3.heap.size, 0, none⟩ = some (.slice Am mB capm)) (first | (exact hS _ Q0) | (exact s1) | (exact s5) | (exact s6) | (exact s7) | (exact s8) | (exact hS _ (Q5.alloc _)) | fail)
                ((first | (go_at_call 20; refine (cM w8 Q8).mono ?_; rintro e w9 ⟨rfl, rfl⟩) | (go_at_call 13; refine (cD w7 Q7).mono ?_; rintro e w8 ⟨rfl, q8⟩; have Q8 := Q7.tr q8; have s8 := hS w8 Q8) | (go_at_call 14; refine (cT w6).mono ?_; rintro e w7 ⟨rfl, q7⟩; have Q7 := Q6.tr q7; have s7 := hS w7 Q7) | (go_at_call 18; refine (cK w1 Q1).mono ?_; rintro e w5 ⟨rfl, q5⟩; have Q5 := Q1.tr q5; have s5 := hS w5 Q5) | (go_at_call 17; refine (cS W4.drew Q0).mono ?_; rintro e w1 ⟨rfl, q1⟩; have Q1 := Q0.tr q1; have s1 := hS w1 Q1) | (go_at_call 19; refine (cR w5 Q5 _ rfl).mono ?_; rintro e w6 ⟨rfl, q6⟩; have Q6 := Q5.tr q6; have s6 := hS w6 Q6)))
              go_wp2_with fail
              go_meet
              exact ⟨rfl, Q8⟩
            case rest =>
              obtain ⟨rfl, hcut⟩ := hcut
              obtain ⟨w45, hw45⟩ : ∃ w45, w45 = wc := ⟨_, rfl⟩
              rw [← hw45] at hcut ⊢
              clear hw45
              have hF9 := hF8.nw hcut
              have hI9 := hI8.fr hcut (fun h => h)
              have hLe9 := hLe8.fr hcut (fun h => h)
              have hX9 := hX8.fr hcut (fun h => h)
              have hY9 := hY8.fr hcut (fun h => h)
              have hover := over_reads w45 gL v.2.2.2 hLe9 hsv.1
              rw [HRL2.out] at hover
              have i4 := (cells5 hI9).2.2.2.2
              clear hS cS cK cR cT cD cM hbm Q0 hF8 hI8 hLe8 hX8 hY8 hxs8 hys8 hI9
              go_wp2_with fail
              refine hover.mono ?_
              rintro e wf ⟨rfl, ff⟩
              have hF10 := hF9.frX ff (fun q h => by rw [h]; exact xL)
              have hz2 := bookOk_sz hbo2
              have huvl := of_len v.1 hz2
              have hof := bkOf_any wf (F8 0) gB B2 hF10.b v.1 hnw hz2 (by omega)
              have hof2 := fun w1 (h : IsRB w1 (F8 1) w3.heap.size B2) => rbOf_any w1 (F8 1) w3.heap.size B2 h v.1 hz2 (by omega)
              unfold OfTo at hof hof2
              obtain ⟨is, his⟩ : ∃ is, (findV v.1 B2).isSome = is := ⟨_, rfl⟩
              obtain ⟨uv, huv⟩ : ∃ uv, (findV v.1 B2).getD verZero = uv := ⟨_, rfl⟩
              simp only [huv, his] at hof hof2 huvl
              clear huv his
              obtain ⟨k0, k1, _⟩ := cellsL (hclw wf hF10.q)
              have hgX := hX9.lt
              have hgY := hY9.lt
              have hffs := ff.size
              have nXL : wd.heap.size ≠ gL := fun e => by have h := hLe9.blkT; rw [← e] at h; obtain ⟨cur, h⟩ := h; exact absurd (h.inj hX9).1 (by decide)
              have nYL : we.heap.size ≠ gL := fun e => by have h := hLe9.blkT; rw [← e] at h; obtain ⟨cur, h⟩ := h; exact absurd (h.inj hY9).1 (by decide)
              have nXY : wd.heap.size ≠ we.heap.size := fun e => by have h := hX9; rw [e] at h; exact absurd (h.inj hY9).1 (by decide)
              have hX10 := hX9.fr ff nXL
              have hY10 := hY9.fr ff nYL
              clear hF9 hX9 hY9 hLe9 hover i4
              go_wp2_with fail
              refine hof.mono ?_
              rintro e wg ⟨A6, c6, rfl, hu1, hu2, hus, qg⟩
              have hX11 := hX10.fr qg (fun h => h)
              have hY11 := hY10.fr qg (fun h => h)
              have hgs := qg.size
              have hone6 := ver_one uv.1.1 uv.1.2 uv.2.1 uv.2.2.1 (.slice A6 uv.2.2.2.length c6) rfl
              obtain ⟨W6, hW6⟩ : ∃ W6, W6 = wg.setRow wd.heap.size #[I64 uv.1.1, I64 uv.1.2, .bool uv.2.1, I64 uv.2.2.1, .slice A6 uv.2.2.2.length c6] := ⟨_, rfl⟩
              have hX12 := hX11.row #[I64 uv.1.1, I64 uv.1.2, .bool uv.2.1, I64 uv.2.2.1, .slice A6 uv.2.2.2.length c6]
              have f66 : Fr (· = wd.heap.size) wg W6 := by rw [hW6]; exact (Fr.refl (· = wd.heap.size) wg).setRow (.inl rfl) _
              rw [← hW6] at hX12
              have HW6 := Lib.hid hW6
              clear hW6
              have hY12 := hY11.fr f66 (fun e => nXY e.symm)
              have hus2 := hus.fr f66 (fun q h e => by omega)
              have hF12 := (hF10.nw qg).frX f66 (fun q h => by rw [h]; exact xX)
              have k2 := cellsL (hclw W6 hF12.q)
              obtain ⟨m0, m1, _⟩ := k2
              go_upto_region 22 with (refine wpList_store_row rfl 38 _ _ rfl wd.heap.size _ rfl rfl 38 _ hX11 ver_size rfl hone6 ?_)
              rw [← HW6.out]
              go_wp2_with fail
              refine (hof2 W6 hF12.m).mono ?_
              rintro e wh ⟨A7, c7, rfl, hu3, hu4, hus3, qh⟩
              have s66 := f66.size
              have hX13 := hX12.fr qh (fun h => h)
              have hY13 := hY12.fr qh (fun h => h)
              have hus4 := hus2.fr qh (fun _ _ h => h)
              have hone7 := ver_one uv.1.1 uv.1.2 uv.2.1 uv.2.2.1 (.slice A7 uv.2.2.2.length c7) rfl
              obtain ⟨W7, hW7⟩ : ∃ W7, W7 = wh.setRow we.heap.size #[I64 uv.1.1, I64 uv.1.2, .bool uv.2.1, I64 uv.2.2.1, .slice A7 uv.2.2.2.length c7] := ⟨_, rfl⟩
              have hY14 := hY13.row #[I64 uv.1.1, I64 uv.1.2, .bool uv.2.1, I64 uv.2.2.1, .slice A7 uv.2.2.2.length c7]
              have f77 : Fr (· = we.heap.size) wh W7 := by rw [hW7]; exact (Fr.refl (· = we.heap.size) wh).setRow (.inl rfl) _
              rw [← hW7] at hY14
              have HW7 := Lib.hid hW7
              clear hW7
              have hX14 := hX13.fr f77 nXY
              have hus5 := hus4.fr f77 (fun q h e => by omega)
              have hus6 := hus3.fr f77 (fun q h e => by omega)
              have hF14 := (hF12.nw qh).frX f77 (fun q h => by rw [h]; exact xY)
              have heq := same_any W7 _ _ uv uv A6 A7 c6 c7 hus5 hus6 huvl
              rw [sameV_refl] at heq
              clear hX10 hX11 hX12 hX13 hY10 hY11 hY12 hus hus2 hus3 hus4 hF10 hF12 hof hof2
              go_upto_region 23 with (refine wpList_store_row rfl 41 _ _ rfl we.heap.size _ rfl rfl 41 _ hY13 rver_size rfl hone7 ?_)
              rw [← HW7.out]
              obtain ⟨x0, x1, x2, x3, x4⟩ := cells5 hX14
              obtain ⟨y0, y1, y2, y3, y4⟩ := cells5 hY14
              go_wp2_with fail
              refine heq.mono ?_
              rintro e wi ⟨rfl, qi⟩
              go_wp2_with fail
              go_roundw
              case rel => exact ⟨j + 1, B2, by omega, by go_num, by omega, hbo2, by rw [HR2.out], C, gC, gD, F8, by omega, hco, rfl, rfl, (hF14.nw qi).less⟩
              case measure => simp [intOf]; omega
      · obtain rfl : j = n := by omega
        obtain ⟨C, gC, gD, F, hCj, hco, rfl, rfl, hF⟩ := hmid
        have hall : (l.take j).all verOk = l.all verOk := by rw [List.take_of_length_le (by rw [← HN.out]; exact Nat.le_refl _)]
        obtain ⟨ra, hra⟩ : ∃ ra, l.all verOk = ra := ⟨_, rfl⟩
        rw [hra] at hall
        rw [hall]
        have HRA := Lib.hid hra
        clear hall hra
        have hB150 : B.length ≤ 150 := Nat.le_trans hBj hn150
        have hC150 : C.length ≤ 150 := Nat.le_trans hCj hn150
        have hws : wrap64 ((j : Int) - 1) = (j : Int) - 1 := by unfold wrap64; omega
        have hst : De2Rel w gB w3.heap.size gC gD j B (.int .i64 ((j : Int) - 1)) wr := ⟨j, (j : Int) - 1, C, F, Nat.le_refl _, rfl, rfl, by omega, hco, hF⟩
        clear hF hco hCj hC150 C F
        go_wp2_with fail
        go_loopw [21] (fun i wx => De2Rel w gB w3.heap.size gC gD j B i wx) (fun i _ => (intOf i + 1).toNat)
        case atStart => exact hst
        case round =>
          clear hst
          obtain ⟨t, z, C, F, htj, rfl, hzt, hCt, hco, hF⟩ := hrel
          by_cases ht0 : t = 0
          · have hzi : ¬ (0 : Int) ≤ z := by omega
            have hzz : decide ((0 : Int) ≤ z) = false := decide_eq_false hzi
            clear hzt
            have hC150 : C.length ≤ 400 := by omega
            have hblt := hF.b.lt
            have hblen := bookB_len hbo (by omega)
            go_wp2_with fail
            refine (newWriter_any wr).mono ?_
            rintro e wa ⟨rfl, hw, qa⟩
            go_wp2_with fail
            refine (bkWrite_any wa (F 0) _ gB _ B (hF.b.fr qa (fun _ _ h => h)) hw (fun q h e => by have := hblt q h; omega) hbo (by omega)).mono ?_
            rintro e wb ⟨rfl, FW, hwb, fb, hFW⟩
            go_wp2_with fail
            refine (done_ok wb FW _ _ hwb rfl (by show (bookB B).length ≤ _; omega)).mono ?_
            rintro e wd ⟨A2, c2, rfl, hod, qd, hin⟩
            have q5 : Nw wr wd := (qa.trans fb (fun q e => .inr (by omega))).tr qd
            have hF5 := hF.nw q5
            have hod : Own wd 5 1 A2 (bookB B).length c2 ((bookB B).map B8) := hod
            have hzB := bookOk_sz hbo
            have hzC := bookOk_sz hco
            obtain ⟨Am, capm, csm, Im, hbm, hom, hvm, _⟩ := id hF5.m
            obtain ⟨Ad, capd, csd, Id, hbd, hodd, hvd, _⟩ := id hF5.d
            have hbyt := fun w1 (f : Nw wd w1) => rbBytes_any w1 (F 1) w3.heap.size B (hF5.m.fr f (fun _ _ h => h)) hbo (by omega)
            obtain ⟨bs, hbs⟩ : ∃ bs, bookB B = bs := ⟨_, rfl⟩
            obtain ⟨nb, hnb⟩ : ∃ nb, bs.length = nb := ⟨_, rfl⟩
            obtain ⟨mB, hmB⟩ : ∃ mB, B.length = mB := ⟨_, rfl⟩
            obtain ⟨mC, hmC⟩ : ∃ mC, C.length = mC := ⟨_, rfl⟩
            obtain ⟨V, hV⟩ : ∃ V, allV cm B = V := ⟨_, rfl⟩
            obtain ⟨mV, hmV⟩ : ∃ mV, V.length = mV := ⟨_, rfl⟩
            have hVs : VersSz V := fun v hv => hzB v (by rw [← hV] at hv; exact (List.mem_filter.1 hv).1)
            have hVl : V.length ≤ 2000000000 := by rw [← hV]; exact Nat.le_trans (List.length_filter_le _ _) (by omega)
            rw [hbs] at hod hbyt hblen
            rw [hnb] at hod hblen
            have hncl : cm.length ≤ 1000000000 := by rw [← HNC.out]; omega
            have c1 : ∀ w1, Nw wd w1 → Calls Try.prog 19 #[.slice A j c] w1 fun e w' => e = .returned (.bool ra) ∧ Nw w1 w' := fun w1 f => by
              have h := right_any w1 _ _ A c l vcs (hs.fr (hF5.q.tr f) (fun _ _ h => h)) (hv.fr (hF5.q.tr f) (fun _ _ h => h)) (fun v h => small_sz (hsm v h)) (by rw [← HN.out]; omega)
              rw [HRA.out, ← HN.out] at h
              exact h
            have c3 : ∀ w1, Nw wd w1 → Calls Try.prog 28 #[.pointer (some ⟨w3.heap.size, 0, none⟩)] w1 fun e w' => ∃ A' c', e = .returned (.slice A' nb c') ∧ Own w' 5 1 A' nb c' (bs.map B8) ∧ Nw w1 w' := fun w1 f => by
              refine (hbyt w1 f).mono ?_
              rintro e w' ⟨v, rfl, A', c', rfl, h1, h2, _⟩
              rw [← hnb]
              exact ⟨A', c', rfl, h1, h2⟩
            have c4 : ∀ w1, Nw wd w1 → ∀ A' c', Own w1 5 1 A' nb c' (bs.map B8) → Calls Try.prog 27 #[.slice A2 nb c2, .slice A' nb c'] w1 fun e w' => e = .returned (.bool true) ∧ Nw w1 w' := fun w1 f A' c' h => by
              have h2 := same_u8 w1 _ _ A2 A' c2 c' bs bs ((hod.fr f (fun _ _ h => h)).sl) h.sl (by omega)
              rw [hnb] at h2
              refine h2.mono ?_
              rintro e w' ⟨rfl, q⟩
              exact ⟨by simp, q.fr _⟩
            have c5 : ∀ w1, Nw wd w1 → Calls Try.prog 30 #[.pointer (some ⟨gB, 0, none⟩), .slice none 0 0] w1 fun e w' => ∃ A' c' cs' I', e = .returned (.slice A' mB c') ∧ Sl w' (inA A') A' cs' ∧ VersC w' I' B cs' ∧ Nw w1 w' := fun w1 f => by
              refine (bkAll_any w1 (F 0) (fun _ => False) gB B (hF5.b.fr f (fun _ _ h => h)) none 0 [] (Sl.nil _ _ _) (by simp) hzB (by omega)).mono ?_
              rintro e w' ⟨v, rfl, hva, q⟩
              rw [allV_nil] at hva
              obtain ⟨A', c', cs', I', rfl, h1, h2, _⟩ := hva
              exact ⟨A', c', cs', I', by rw [hmB], h1.sl, h2, q⟩
            have c6 : ∀ w1, Nw wd w1 → ∀ A' c' cs' I', Sl w1 (inA A') A' cs' → VersC w1 I' B cs' → Calls Try.prog 29 #[.slice A' mB c', .slice Am mB capm] w1 fun e w' => e = .returned (.bool true) ∧ Nw w1 w' := fun w1 f A' c' cs' I' h1 h2 => by
              have h := allSame_any w1 _ _ I' Im B B A' Am c' capm cs' csm h1 h2 ((hom.fr f (fun _ _ h => h)).sl) (hvm.fr f (fun _ _ h => h)) hzB (by omega)
              rw [sameVs_iff.2 rfl, hmB] at h
              exact h
            have c7 : ∀ w1, Nw wd w1 → Calls Try.prog 30 #[.pointer (some ⟨gB, 0, none⟩), .slice Ac nc cc] w1 fun e w' => ∃ A' c' cs' I', e = .returned (.slice A' mV c') ∧ Sl w' (inA A') A' cs' ∧ VersC w' I' V cs' ∧ Nw w1 w' := fun w1 f => by
              have h := bkAll_any w1 (F 0) _ gB B (hF5.b.fr f (fun _ _ h => h)) Ac cc cm (hc.fr (hF5.q.tr f) (fun _ _ h => h)) hncl hzB (by omega)
              rw [← HNC.out, hV] at h
              refine h.mono ?_
              rintro e w' ⟨v, rfl, ⟨A', c', cs', I', rfl, h1, h2, _⟩, q⟩
              exact ⟨A', c', cs', I', by rw [hmV], h1.sl, h2, q⟩
            have c8 : ∀ w1, Nw wd w1 → Calls Try.prog 31 #[.pointer (some ⟨w3.heap.size, 0, none⟩), .slice Ac nc cc] w1 fun e w' => ∃ A' c' cs' I', e = .returned (.slice A' mV c') ∧ Sl w' (inA A') A' cs' ∧ VersC w' I' V cs' ∧ Nw w1 w' := fun w1 f => by
              have h := rbAll_any w1 (F 1) _ w3.heap.size B (hF5.m.fr f (fun _ _ h => h)) Ac cc cm (hc.fr (hF5.q.tr f) (fun _ _ h => h)) hncl hzB (by omega)
              rw [← HNC.out, hV] at h
              refine h.mono ?_
              rintro e w' ⟨v, rfl, ⟨A', c', cs', I', rfl, h1, h2, _⟩, q⟩
              exact ⟨A', c', cs', I', by rw [hmV], h1.sl, h2, q⟩
            have c9 : ∀ w1 A' c' cs' I' A1 c1 cs1 I1, Sl w1 (inA A') A' cs' → VersC w1 I' V cs' → Sl w1 (inA A1) A1 cs1 → VersC w1 I1 V cs1 → Calls Try.prog 29 #[.slice A' mV c', .slice A1 mV c1] w1 fun e w' => e = .returned (.bool true) ∧ Nw w1 w' := fun w1 A' c' cs' I' A1 c1 cs1 I1 h1 h2 h3 h4 => by
              have h := allSame_any w1 _ _ I' I1 V V A' A1 c' c1 cs' cs1 h1 h2 h3 h4 hVs hVl
              rw [sameVs_iff.2 rfl, hmV] at h
              exact h
            have c10 : ∀ w1, Nw wd w1 → Calls Try.prog 30 #[.pointer (some ⟨gC, 0, none⟩), .slice none 0 0] w1 fun e w' => ∃ A' c' cs' I', e = .returned (.slice A' mC c') ∧ Sl w' (inA A') A' cs' ∧ VersC w' I' C cs' ∧ Nw w1 w' := fun w1 f => by
              refine (bkAll_any w1 (F 2) (fun _ => False) gC C (hF5.c.fr f (fun _ _ h => h)) none 0 [] (Sl.nil _ _ _) (by simp) hzC (by omega)).mono ?_
              rintro e w' ⟨v, rfl, hva, q⟩
              rw [allV_nil] at hva
              obtain ⟨A', c', cs', I', rfl, h1, h2, _⟩ := hva
              exact ⟨A', c', cs', I', by rw [hmC], h1.sl, h2, q⟩
            have c11 : ∀ w1, Nw wd w1 → ∀ A' c' cs' I', Sl w1 (inA A') A' cs' → VersC w1 I' C cs' → Calls Try.prog 29 #[.slice A' mC c', .slice Ad mC capd] w1 fun e w' => e = .returned (.bool true) ∧ Nw w1 w' := fun w1 f A' c' cs' I' h1 h2 => by
              have h := allSame_any w1 _ _ I' Id C C A' Ad c' capd cs' csd h1 h2 ((hodd.fr f (fun _ _ h => h)).sl) (hvd.fr f (fun _ _ h => h)) hzC (by omega)
              rw [sameVs_iff.2 rfl, hmC] at h
              exact h
            have hS : ∀ w', Nw wd w' → w'.cell? ⟨w3.heap.size, 0, none⟩ = some (.slice Am mB capm) ∧ w'.cell? ⟨gD, 0, none⟩ = some (.slice Ad mC capd) := fun w' f => by
              have h1 : w'.cell? ⟨w3.heap.size, 0, none⟩ = some (.slice Am B.length capm) := by simpa using (hbm.fr f (fun h => h)).cell 0
              have h2 : w'.cell? ⟨gD, 0, none⟩ = some (.slice Ad C.length capd) := by simpa using (hbd.fr f (fun h => h)).cell 0
              rw [hmB] at h1
              rw [hmC] at h2
              exact ⟨h1, h2⟩
            have hqd := hF5.q
            have Q0 : Nw wd wd.drew := (Fr.refl (fun _ => False) wd).drew
            have e1 : (⟨true, bookB B⟩ : Wr).bs.length = nb := by show (bookB B).length = nb; rw [hbs, hnb]
            have HE1 := Lib.hid e1
            clear e1 hnb hbs hmB hmC hmV hV hVs hVl hF5 hF hbyt hod hom hvm hodd hvd hbm hbd hblt hw hwb fb qd hin q5 qa
            go_upto_region 33 with (fail)
            rw [HE1.out]
            go_region_held3 (fun w' => w'.cell? ⟨w3.heap.size, 0, none⟩ = some (.slice Am mB capm) ∧ w'.cell? ⟨gD, 0, none⟩ = some (.slice Ad mC capd)) (first | (exact hS _ Q0) | (exact s12) | (exact s13) | (exact s14) | (exact s15) | (exact s16) | (exact s17) | (exact s18) | (exact s19) | (exact s20) | (exact s21) | (exact s22) | fail)
              ((first | (go_at_call 7; refine (haw w21).mono ?_; rintro e w22 ⟨rfl, q22⟩; have Q22 := Q21.tr q22; have s22 := hS w22 Q22) | (go_at_call 29; refine (c11 w20 Q20 _ _ _ _ o20 v20).mono ?_; rintro e w21 ⟨rfl, q21⟩; have Q21 := Q20.tr q21; have s21 := hS w21 Q21) | (go_at_call 30; refine (c10 w19 Q19).mono ?_; rintro e w20 ⟨A20, c20, cs20, I20, rfl, o20, v20, q20⟩; have Q20 := Q19.tr q20; have s20 := hS w20 Q20) | (go_at_call 29; refine (c9 w18 _ _ _ _ _ _ _ _ (o17.fr q18 (fun _ _ h => h)) (v17.fr q18 (fun _ _ h => h)) o18 v18).mono ?_; rintro e w19 ⟨rfl, q19⟩; have Q19 := Q18.tr q19; have s19 := hS w19 Q19) | (go_at_call 31; refine (c8 w17 Q17).mono ?_; rintro e w18 ⟨A18, c18, cs18, I18, rfl, o18, v18, q18⟩; have Q18 := Q17.tr q18; have s18 := hS w18 Q18) | (go_at_call 30; refine (c7 w16 Q16).mono ?_; rintro e w17 ⟨A17, c17, cs17, I17, rfl, o17, v17, q17⟩; have Q17 := Q16.tr q17; have s17 := hS w17 Q17) | (go_at_call 29; refine (c6 w15 Q15 _ _ _ _ o15 v15).mono ?_; rintro e w16 ⟨rfl, q16⟩; have Q16 := Q15.tr q16; have s16 := hS w16 Q16) | (go_at_call 30; refine (c5 w14 Q14).mono ?_; rintro e w15 ⟨A15, c15, cs15, I15, rfl, o15, v15, q15⟩; have Q15 := Q14.tr q15; have s15 := hS w15 Q15) | (go_at_call 27; refine (c4 w13 Q13 _ _ o13).mono ?_; rintro e w14 ⟨rfl, q14⟩; have Q14 := Q13.tr q14; have s14 := hS w14 Q14) | (go_at_call 28; refine (c3 w12 Q12).mono ?_; rintro e w13 ⟨A13, c13, rfl, o13, q13⟩; have Q13 := Q12.tr q13; have s13 := hS w13 Q13) | (go_at_call 19; refine (c1 wd.drew Q0).mono ?_; rintro e w12 ⟨rfl, q12⟩; have Q12 := Q0.tr q12; have s12 := hS w12 Q12)))
            all_goals
              go_wp2_with fail
              go_ret
              exact ⟨rfl, hqd.tr Q22⟩
          · obtain ⟨t2, rfl⟩ : ∃ t2, t = t2 + 1 := ⟨t - 1, by omega⟩
            obtain rfl : z = (t2 : Int) := by omega
            have htl : t2 < l.length := by rw [← HN.out]; omega
            obtain ⟨bA, oA, A', c', rfl, _, hcell, hc1, hc2, hs'⟩ := hs.ver hv htl
            have hzv := hz _ (List.getElem_mem htl)
            have hsv := small_sz (hsm _ (List.getElem_mem htl))
            obtain ⟨v, hvj⟩ : ∃ v, l[t2] = v := ⟨_, rfl⟩
            rw [hvj] at hcell hc1 hs' hzv hsv
            have hnw := hzv.1
            clear hvj hzv hzt ht0
            have hclw : ∀ wx, Nw w wx → ∀ p u, (verL v A' c')[p]? = some u → wx.cell? ⟨bA, oA + t2 * 5 + p, none⟩ = some u := fun wx qx p u hu => (qx.cell (World.block_lt_of_cell? _ _ (hcell p u hu)) (fun h => h)).trans (hcell p u hu)
            have hsW := fun w1 (q : Nw w w1) => hs'.fr q (fun _ _ h => h)
            obtain ⟨xv, er, C2, hd⟩ : ∃ xv er C2, decV C v = (xv, er, C2) := ⟨_, _, _, rfl⟩
            have hbw := dec_ways hd hco
            have hco2 : BookOk C2 := hbw.1
            have hlen2 : C2.length ≤ C.length + 1 := hbw.2.1
            have hxl : xv.2.2.2.length ≤ 1000000000 := dec_told hd hco hsv.1
            have hdec := bkDecide_any wr (F 2) _ gC C hF.c v A' c' (hsW wr hF.q) (fun q h => hF.farO 2 q h) hc1 hc2 hsv (bookOk_sz hco) hnw (by omega)
            rw [hd] at hdec
            have hcl1 := hclw wr hF.q
            have hzi : (0 : Int) ≤ (t2 : Int) := by omega
            have hzn : (t2 : Int) < (j : Int) := by omega
            have hsub : wrap64 ((t2 : Int) - 1) = (t2 : Int) - 1 := by unfold wrap64; omega
            clear hbw
            go_wp2_with (refine wl_load_cells rfl 38 _ rfl bA (oA + t2 * 5) rfl (verL v A' c') _ hcl1 Try.underlying38 rfl ver_size ?_)
            refine hdec.mono ?_
            rintro e wd ⟨Ax, cx, G, rfl, hx1, hx2, hxs, hb2, fd, hG⟩
            have hF4 := hF.decC hb2 fd hG
            have hxs : Sl wd (fun k => wr.heap.size ≤ k ∧ ¬ G k) Ax (rdgsCells xv.2.2.2) := hxs
            obtain ⟨W3, hW3⟩ : ∃ W3, W3 = wd.alloc (.cells #[.int .i64 xv.1.1, .int .i64 xv.1.2, .bool xv.2.1, .int .i64 xv.2.2.1, .slice Ax xv.2.2.2.length cx] 38) := ⟨_, rfl⟩
            have q33 : Nw wd W3 := by rw [hW3]; exact (Fr.refl (fun _ => False) wd).alloc _
            have hX3 : Blk W3 wd.heap.size 38 #[I64 xv.1.1, I64 xv.1.2, .bool xv.2.1, I64 xv.2.2.1, .slice Ax xv.2.2.2.length cx] := by rw [hW3]; exact Blk.new wd 38 _
            have HW3 := Lib.hid hW3
            clear hW3
            go_upto_region 29 with (fail)
            rw [← HW3.out]
            obtain ⟨X5, xX, xA, hF5⟩ : ∃ X5 : Nat → Prop, X5 wd.heap.size ∧ (∀ q, wr.heap.size ≤ q ∧ q < wd.heap.size ∧ ¬ G q → X5 q) ∧ Four w X5 (upd F 2 G) gB w3.heap.size gC gD B B C2 C W3 :=
              ⟨fun q => Xn (fun _ => False) wr wd G q ∨ q = wd.heap.size, .inr rfl, fun q h => .inl (.inr h), hF4.more q33 (fun q h => h.elim .inl (fun h => .inr (by have := hX3.lt; omega)))⟩
            generalize upd F 2 G = F5 at hF5
            have hxs5 := (hxs.mono (F' := X5) fun q h hlt => xA q ⟨h.1, hlt, h.2⟩).fr q33 (fun _ _ h => h)
            clear hF4 hdec hxs xA hb2 fd hG q33
            have hcl3 := hclw W3 hF5.q
            go_wp2_with (refine wl_load_cells rfl 38 _ rfl bA (oA + t2 * 5) rfl (verL v A' c') _ hcl3 Try.underlying38 rfl ver_size ?_)
            refine (turned_any W3 v A' c').mono ?_
            rintro e wt ⟨rfl, qt⟩
            have hF6 := hF5.nw qt
            have hdec2 := rbDecide_any wt (F5 3) _ gD C hF6.d v A' c' (hsW wt hF6.q) (fun q h => hF6.farO 3 q h) hsv (bookOk_sz hco) (by omega)
            rw [hd] at hdec2
            go_wp2_with fail
            refine hdec2.mono ?_
            rintro e we ⟨Ay, cy, G2, rfl, hy1, hy2, hys, hm2, fe, hG2⟩
            have hF7 := hF6.decD hm2 fe hG2
            have f35 : Fr (F5 3) W3 we := (Nw.on qt).tr fe
            have hX7 := hX3.fr f35 (hF5.farX 3 _ xX)
            have hxs7 := hxs5.fr f35 (hF5.farX 3)
            have hys : Sl we (fun k => wt.heap.size ≤ k ∧ ¬ G2 k) Ay (rdgsCells xv.2.2.2) := hys
            obtain ⟨W4, hW4⟩ : ∃ W4, W4 = we.alloc (.cells #[.int .i64 xv.1.1, .int .i64 xv.1.2, .bool xv.2.1, .int .i64 xv.2.2.1, .slice Ay xv.2.2.2.length cy] 41) := ⟨_, rfl⟩
            have q44 : Nw we W4 := by rw [hW4]; exact (Fr.refl (fun _ => False) we).alloc _
            have hY8 : Blk W4 we.heap.size 41 #[I64 xv.1.1, I64 xv.1.2, .bool xv.2.1, I64 xv.2.2.1, .slice Ay xv.2.2.2.length cy] := by rw [hW4]; exact Blk.new we 41 _
            have HW4 := Lib.hid hW4
            clear hW4
            have hF8 := (hF7.nw q44).less
            have hys8 := hys.fr q44 (fun _ _ h => h)
            have hxs8 := hxs7.fr q44 (fun _ _ h => h)
            have hX8 := hX7.fr q44 (fun h => h)
            clear hF7 hF6 hF5 hX7 hX3 hxs5 hxs7 hdec2 hys hm2 fe hG2 f35 qt hcl3
            have heq := same_any W4 _ _ xv xv Ax Ay cx cy hxs8 hys8 hxl
            rw [sameV_refl] at heq
            go_upto_region 30 with (fail)
            rw [← HW4.out]
            obtain ⟨x0, x1, x2, x3, x4⟩ := cells5 hX8
            obtain ⟨y0, y1, y2, y3, y4⟩ := cells5 hY8
            go_wp2_with fail
            refine heq.mono ?_
            rintro e wi ⟨rfl, qi⟩
            go_wp2_with fail
            go_roundw
            case rel => exact ⟨t2, _, C2, _, by omega, rfl, rfl, by omega, hco2, hF8.nw qi⟩
            case measure => simp [intOf]
end Go.Proofs.Ytgmcjfjdjnoljaa
