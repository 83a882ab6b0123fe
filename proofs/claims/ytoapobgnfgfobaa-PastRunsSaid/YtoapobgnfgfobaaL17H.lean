/- PastGrows: the walk where all names are right. -/
import Derived.Test.YtoapobgnfgfobaaL17G
namespace Go.Proofs.Ytoapobgnfgfobaa
open Go Go.RowKit

theorem Own.drew_ {w : World} {E : TypeId} {size n cap : Nat} {A : Option Addr} {cs : List Value} (h : Own w E size A n cap cs) : Own w.drew E size A n cap cs := h
theorem Blk.drew_ {w : World} {g : Nat} {t : TypeId} {cs : Array Value} (h : Blk w g t cs) : Blk w.drew g t cs := h

theorem raise_ok_any (w : World) (F : Nat → Prop) (A : Option Addr) (n c : Nat) (l : List Nm) (hn : l.length = n) (hs : Sl w F A (nmCells l)) (hl : l.length ≤ 1000000000) (g : Nat) (p : Pst) (h : IsPast w g p) (hg : ¬ F g) (hok : allOk l = true) :
    Calls Try.prog 16 #[PtrV g, .slice A n c] w fun e w' => e = .returned (.int .i64 0) ∧ IsPast w' g (pRaise p l) ∧ Fr (· = g) w w' := by
  have h1 := pastRaise_len w F A n c l hn hs hl g p h hg
  obtain ⟨h2, h3⟩ := raise_right l p hok
  rwa [h2, h3] at h1

def KnownNw (w : World) (n : Nat) (i : Value) (wx : World) : Prop := ∃ k : Nat, k ≤ n ∧ i = .int .i64 k ∧ Nw w wx
theorem merge_two (w : World) (gq g : Nat) (p q : Pst) (hp : IsPast w g p) (hq : IsPast w gq q) (hne : gq ≠ g) :
    Calls Try.prog 21 #[PtrV g, .slice (some ⟨w.heap.size, 0, none⟩) 2 2] (w.alloc (.cells #[PtrV gq, PtrV gq] 27)) fun e w' => e = .returned (.int .i64 0) ∧ IsPast w' g (pMerge p [q, q]) ∧ Fr (· = g) w w' := by
  have q0 : Nw w (w.alloc (.cells #[PtrV gq, PtrV gq] 27)) := (Fr.refl _ w).alloc _
  have hq1 := hq.fr q0 (fun h => h)
  have h := pastMerge_any _ (· = w.heap.size) _ 2 [gq, gq] [q, q] (sl_new w 27 [PtrV gq, PtrV gq] _ rfl) (by simp) ⟨rfl, fun k h1 h2 => by
    rcases k with _ | _ | k
    · exact hq1
    · exact hq1
    · simp at h1; omega⟩ g p (hp.fr q0 (fun h => h)) (by have := hp.2.lt; omega) (by simpa using hne)
  exact h.mono fun e w' ⟨h1, h2, h3⟩ => ⟨h1, h2, ((Fr.refl (· = g) w).alloc _).tr h3⟩
theorem merge_one (w : World) (gq g : Nat) (p q : Pst) (hp : IsPast w g p) (hq : IsPast w gq q) (hne : gq ≠ g) :
    Calls Try.prog 21 #[PtrV g, .slice (some ⟨w.heap.size, 0, none⟩) 1 1] (w.alloc (.cells #[PtrV gq] 27)) fun e w' => e = .returned (.int .i64 0) ∧ IsPast w' g (pMerge p [q]) ∧ Fr (· = g) w w' := by
  have q0 : Nw w (w.alloc (.cells #[PtrV gq] 27)) := (Fr.refl _ w).alloc _
  have hq1 := hq.fr q0 (fun h => h)
  have h := pastMerge_any _ (· = w.heap.size) _ 1 [gq] [q] (sl_new w 27 [PtrV gq] _ rfl) (by simp) ⟨rfl, fun k h1 h2 => by
    rcases k with _ | k
    · exact hq1
    · simp at h1⟩ g p (hp.fr q0 (fun h => h)) (by have := hp.2.lt; omega) (by simpa using hne)
  exact h.mono fun e w' ⟨h1, h2, h3⟩ => ⟨h1, h2, ((Fr.refl (· = g) w).alloc _).tr h3⟩

set_option maxRecDepth 100000 in
set_option maxHeartbeats 4000000 in
theorem grows_good (w : World) (A0 A1 : Option Addr) (c0 c1 : Nat) (a b : List Nm) (x : Int) (ha : Sl w (· < w.heap.size) A0 (nmCells a)) (hb : Sl w (· < w.heap.size) A1 (nmCells b)) (hle : a.length + b.length ≤ 1000) (hc0 : a.length ≤ c0)
    (hx : -9223372036854775808 ≤ x ∧ x ≤ 9223372036854775807) (hoa : allOk a = true) (hob : allOk b = true) :
    Calls Try.prog 10 #[.slice A0 a.length c0, .slice A1 b.length c1, .int .i64 x] w fun e w' => e = .returned (.bool true) ∧ Nw w w' := by
  have hra := fun (W : World) (hs : Sl W (· < w.heap.size) A0 (nmCells a)) => pastRight_any W (· < w.heap.size) A0 c0 a hs (by omega)
  have hrb := fun (W : World) (hs : Sl W (· < w.heap.size) A1 (nmCells b)) => pastRight_any W (· < w.heap.size) A1 c1 b hs (by omega)
  rw [hoa] at hra
  rw [hob] at hrb
  have HA := Lib.hid hra
  have HB := Lib.hid hrb
  have HOA := Lib.hid hoa
  have HOB := Lib.hid hob
  clear hra hrb hoa hob
  go_enter Try.func10, Try.ntmps10
  go_wp2_with fail
  refine (awake17 _).mono ?_
  rintro e w1 ⟨rfl, q1⟩
  go_wp2_with fail
  refine (HA.out _ (ha.fr q1 (fun _ _ h => h))).mono ?_
  rintro e w2 ⟨rfl, q2⟩
  have q3 := q1.tr q2
  clear q1 q2
  go_wp2_with fail
  refine (HB.out _ (hb.fr q3 (fun _ _ h => h))).mono ?_
  rintro e w3 ⟨rfl, q4⟩
  have q5 := q3.tr q4
  clear q3 q4 HA HB
  go_wp2_with fail
  refine (pastNew_any _).mono ?_
  rintro e w4 ⟨rfl, hp, q6⟩
  have hwp := q5.size
  have hpl := hp.2.lt
  generalize hgp : w3.heap.size = gp at hp hpl hwp ⊢
  have q7 := q5.tr q6
  clear hgp q5 q6
  go_wp2_with fail
  refine (pastNew_any _).mono ?_
  rintro e w5 ⟨rfl, hq, q8⟩
  have hql := hq.2.lt
  generalize hgq : w4.heap.size = gq at hq hql hpl ⊢
  have q9 := q7.tr q8
  have hp5 := hp.fr q8 (fun h => h)
  clear hgq q7 q8 hp
  go_wp2_with fail
  refine (pastNew_any _).mono ?_
  rintro e w6 ⟨rfl, hr, q10⟩
  have hrl := hr.2.lt
  generalize hgr : w5.heap.size = gr at hr hrl hql ⊢
  have q11 := q9.tr q10
  have hp6 := hp5.fr q10 (fun h => h)
  have hq6 := hq.fr q10 (fun h => h)
  clear hgr q9 q10 hp5 hq
  go_wp2_with fail
  refine (pick_any _ x _ (by omega) (by omega) hx).mono ?_
  rintro e w7 ⟨⟨k, hk, rfl⟩, rfl⟩
  have hk2 : k ≤ a.length := by omega
  have s1 := slice_l (P := Try.prog) 23 under_names 2 size_names A0 a.length c0 k hk2
  have s2 := slice_h (P := Try.prog) 23 under_names 2 size_names A0 a.length c0 k (by omega)
  have hi0 : (0 : Int) ≤ (k : Int) := by omega
  have ha6 := ha.fr q11 (fun _ _ h => h)
  have hb6 := hb.fr q11 (fun _ _ h => h)
  have had := ha6.drop (n := a.length) (m := c0) (s := 2) (l := k) (nmCells_len a) hc0 hk2
  rw [← nmCells_drop] at had
  have hat := ha6.pre (k := k * 2)
  rw [← nmCells_take] at hat
  have hm8 := hp6.made
  go_wp2_with fail
  have hsz6 := q11.size
  have hpl6 : gp < w6.heap.size := by omega
  have e0 : Nw w6 (w6.alloc (.cells #[] 53)).drew := ((Fr.refl _ w6).alloc _).drew
  have hdl : (nmCells (a.drop k)).length = (a.length - k) * 2 := by rw [nmCells_len, List.length_drop]
  have htl : (nmCells (a.take k)).length = k * 2 := by rw [nmCells_len, List.length_take, Nat.min_eq_left hk2]
  have HDL := Lib.hid hdl
  have HTL := Lib.hid htl
  clear hdl htl
  (go_region_held3 (fun w' => w'.cell? ⟨gp, 8, none⟩ = some (.bool true)) (first | go_keep | ((exact g1)) | ((exact g2)) | ((exact g3)))
    ((first | (refine step_append2 (by rfl) _ _ _ (by rfl) 16 (.agg #[.int .i64 0, .int .i64 0]) Try.underlying23 info_name rfl (by decide) (by rfl) (Own.drew_ (Own.new w6 53 2 0 0 #[] (Nat.le_refl _) (by decide) rfl)) (by rfl) (hb6.fr e0 (fun _ _ h => h)) (nmCells_len b) (nm_one b) (by omega) (by unfold maxLen; omega) ?_; intro A2 cap2 v1 hap1; obtain ⟨ho1, r1, n1⟩ := hap1.newOwn e0 (fun k hk => by rw [(inA_some _ _).1 hk]; exact Nat.le_refl _); simp only [List.nil_append, Nat.zero_mul, List.take_zero] at ho1; have g1 : v1.cell? ⟨gp, 8, none⟩ = some (.bool true) := (r1.cell (p := ⟨gp, 8, none⟩) hpl6 (fun h => h)).trans hm8) | (refine step_append2 (by rfl) _ _ _ (by rfl) 16 (.agg #[.int .i64 0, .int .i64 0]) Try.underlying23 info_name rfl (by decide) (by rfl) ho1 (by rfl) (had.fr r1 (fun _ _ h => h)) HDL.out (nm_one _) (by omega) (by unfold maxLen; omega) ?_; intro A3 cap3 v2 hap2; obtain ⟨ho2, r2, n2⟩ := hap2.newOwn r1 n1; have g2 : v2.cell? ⟨gp, 8, none⟩ = some (.bool true) := (r2.cell (p := ⟨gp, 8, none⟩) hpl6 (fun h => h)).trans hm8) | (refine step_append2 (by rfl) _ _ _ (by rfl) 16 (.agg #[.int .i64 0, .int .i64 0]) Try.underlying23 info_name rfl (by decide) (by rfl) ho2 (by rfl) (hat.fr r2 (fun _ _ h => h)) HTL.out (nm_one _) (by omega) (by unfold maxLen; omega) ?_; intro A4 cap4 v3 hap3; obtain ⟨ho3, r3, n3⟩ := hap3.newOwn r2 n2; have g3 : v3.cell? ⟨gp, 8, none⟩ = some (.bool true) := (r3.cell (p := ⟨gp, 8, none⟩) hpl6 (fun h => h)).trans hm8))))
  have hT : (nmCells b ++ nmCells (a.drop k)) ++ nmCells (a.take k) = nmCells ((b ++ a.drop k) ++ a.take k) := by rw [nmCells_append, nmCells_append]
  rw [hT] at ho3
  rw [Nat.zero_add] at ho3
  generalize hN : b.length + (a.length - k) + k = N at ho3 ⊢
  have hNT : ((b ++ a.drop k) ++ a.take k).length = N := by rw [List.length_append, List.length_append, List.length_drop, List.length_take, Nat.min_eq_left hk2]; omega
  have hNle : N ≤ 1000 := by omega
  obtain ⟨T, hTT⟩ : ∃ T, (b ++ a.drop k) ++ a.take k = T := ⟨_, rfl⟩
  rw [hTT] at ho3 hNT
  have HNT := Lib.hid hNT
  have HTT := Lib.hid hTT
  have q12 := q11.tr r3
  have hp7 := hp6.fr r3 (fun h => h)
  have hq7 := hq6.fr r3 (fun h => h)
  have hr7 := hr.fr r3 (fun h => h)
  have hTb : ∀ k, inA A4 k → gr < k := fun k hk => by have := n3 k hk; omega
  have hv6 := r3.size
  clear hT hN hNT hTT ho1 ho2 hap1 hap2 hap3 g1 g2 g3 s1 s2 r1 r2 r3 n1 n2 had hat ha6 hb6 hp6 hq6 hr HDL HTL e0 hm8 q11
  have HFA := Lib.hid (of_decide_eq_true HOA.out)
  have HFB := Lib.hid (of_decide_eq_true HOB.out)
  go_wp2_with fail
  refine (raise_ok_any _ (· < w.heap.size) _ _ _ a rfl (ha.fr q12 (fun _ _ h => h)) (by omega) gp pNew hp7 (by omega) HOA.out).mono ?_
  rintro e v4 ⟨rfl, hp8, f8⟩
  have q13 : Nw w v4 := q12.new f8 (fun b hb => by rw [hb]; exact hwp)
  have hq8 := hq7.fr f8 (by omega)
  have hr8 := hr7.fr f8 (by omega)
  have hv4 := f8.size
  have ho4 := ho3.fr f8 (fun k hk e => by have := hTb k hk; omega)
  clear hp7 hq7 hr7 ho3 q12 f8
  go_wp2_with fail
  refine (pastCopy_any _ _ _ hp8).mono ?_
  rintro e v5 ⟨gw, rfl, hwas, hgw, q14⟩
  have q15 := q13.tr q14
  have hp9 := hp8.fr q14 (fun h => h)
  have hq9 := hq8.fr q14 (fun h => h)
  have hr9 := hr8.fr q14 (fun h => h)
  have ho5 := ho4.fr q14 (fun _ _ h => h)
  have hv5 := q14.size
  have hol := ho4.lt
  clear hp8 hq8 hr8 ho4 q13 q14
  go_wp2_with fail
  refine (raise_ok_any _ (· < w.heap.size) _ _ _ b rfl (hb.fr q15 (fun _ _ h => h)) (by omega) gq pNew hq9 (by omega) HOB.out).mono ?_
  rintro e v6 ⟨rfl, hq10, f10⟩
  have q16 : Nw w v6 := q15.new f10 (fun b hb => by rw [hb]; omega)
  have hp10 := hp9.fr f10 (by omega)
  have hr10 := hr9.fr f10 (by omega)
  have hw10 := hwas.fr f10 (by omega)
  have ho6 := ho5.fr f10 (fun k hk e => by have := hTb k hk; omega)
  have hv6 := f10.size
  clear hp9 hq9 hr9 hwas ho5 q15 f10
  have hokT : allOk T = true := decide_eq_true (by rw [← HTT.out]; exact turned_ok k HFA.out HFB.out)
  have HOT := Lib.hid hokT
  clear hokT
  go_wp2_with fail
  refine (raise_ok_any _ (inA A4) _ _ _ T HNT.out ho6.sl (by have := HNT.out; omega) gr pNew hr10 (fun h => by have := hTb _ h; omega) HOT.out).mono ?_
  rintro e v7 ⟨rfl, hr11, f11⟩
  have q17 : Nw w v7 := q16.new f11 (fun b hb => by rw [hb]; omega)
  have hp11 := hp10.fr f11 (by omega)
  have hq11 := hq10.fr f11 (by omega)
  have hw11 := hw10.fr f11 (by omega)
  have ho7 := ho6.fr f11 (fun k hk e => by have := hTb k hk; omega)
  have hv7 := f11.size
  clear hp10 hq10 hr10 hw10 ho6 q16 f11
  have hpm := grows_p a b k HFA.out HFB.out
  have hqm := grows_q a b k HFA.out HFB.out
  rw [HTT.out] at hpm hqm
  have HPM := Lib.hid hpm
  have HQM := Lib.hid hqm
  clear hpm hqm
  go_wp2_with fail
  refine (merge_two _ gq gp _ _ hp11 hq11 (by omega)).mono ?_
  rintro e v8 ⟨rfl, hp12, f12⟩
  rw [HPM.out] at hp12
  have q18 : Nw w v8 := q17.new f12 (fun b hb => by rw [hb]; exact hwp)
  have hq12 := hq11.fr f12 (by omega)
  have hr12 := hr11.fr f12 (by omega)
  have hw12 := hw11.fr f12 (by omega)
  have ho8 := ho7.fr f12 (fun k hk e => by have := hTb k hk; omega)
  clear hp11 hq11 hr11 hw11 ho7 q17 f12
  go_wp2_with fail
  refine (merge_one _ gw gq _ _ hq12 hw12 (by omega)).mono ?_
  rintro e v9 ⟨rfl, hq13, f13⟩
  rw [HQM.out] at hq13
  have q19 : Nw w v9 := q18.new f13 (fun b hb => by rw [hb]; omega)
  have hp13 := hp12.fr f13 (by omega)
  have hr13 := hr12.fr f13 (by omega)
  have hw13 := hw12.fr f13 (by omega)
  have ho9 := ho8.fr f13 (fun k hk e => by have := hTb k hk; omega)
  clear hp12 hq12 hr12 hw12 ho8 q18 f13
  go_wp2_with fail
  refine (equal17 _ _ _ _ hp13 hr13).mono ?_
  rintro e v10 ⟨rfl, q20⟩
  go_wp2_with fail
  refine (equal17 _ _ _ _ (hq13.fr q20 (fun h => h)) (hr13.fr q20 (fun h => h))).mono ?_
  rintro e v11 ⟨rfl, q21⟩
  have q22 := (q19.tr q20).tr q21
  have hp14 := hp13.fr (q20.tr q21) (fun h => h)
  have hw14 := hw13.fr (q20.tr q21) (fun h => h)
  have ho10 := ho9.fr (q20.tr q21) (fun _ _ h => h)
  clear hp13 hq13 hr13 hw13 ho9 q19 q20 q21 HPM HQM
  have hFT : ∀ x ∈ T, nmOk x := of_decide_eq_true HOT.out
  have hPok := pRaise_ok T hFT
  have hPW : ∀ c : Int, 1 ≤ c ∧ c ≤ 8 → pOf (pRaise pNew a) c ≤ pOf (pRaise pNew T) c := fun c hc => by
    rw [pOf_raise a HFA.out c hc, pOf_raise T hFT c hc, ← HTT.out, grows_turn c a b k HFA.out]
    omega
  have hPmem : ∀ x ∈ T, pIs (pRaise pNew T) x = true := fun x hx => pIs_mem T hFT x hx
  have hPag : pRaise (pRaise pNew T) a = pRaise pNew T := by
    rw [← HTT.out]
    exact grows_again a b k HFA.out HFB.out
  obtain ⟨P, hP⟩ : ∃ P, pRaise pNew T = P := ⟨_, rfl⟩
  obtain ⟨W0, hW0⟩ : ∃ W0, pRaise pNew a = W0 := ⟨_, rfl⟩
  rw [hP] at hp14 hPok hPW hPmem hPag
  rw [hW0] at hw14 hPW
  have HPW := Lib.hid hPW
  have HPM := Lib.hid hPmem
  have HPA := Lib.hid hPag
  have HPO := Lib.hid hPok
  clear hFT hPW hPmem hPag hPok hP hW0
  go_wp2_with fail
  go_loopw [14] (fun c wr => SameTo v11 1 8 c wr) (fun c _ => (9 - intOf c).toNat)
  case atStart => exact ⟨0, Nat.zero_le _, rfl, Fr.refl _ _⟩
  case round =>
    obtain ⟨j, hj, rfl, hq⟩ := hrel
    by_cases hlt : j < 8
    · generalize hcv : ((j : Int) + 1) = cv
      have h1 : 1 ≤ cv := by omega
      have h2 : cv ≤ 8 := by omega
      have HC := Lib.hid hcv
      clear hcv
      have hof := fun (W : World) (hi : IsPast W gp P) => pastOf_any W gp P hi cv
      have hofw := fun (W : World) (hi : IsPast W gw W0) => pastOf_any W gw W0 hi cv
      have his1 := fun (W : World) (hi : IsPast W gp P) => pastIs_any W gp P hi (cv, pOf P cv + 1)
      have his2 := fun (W : World) (hi : IsPast W gp P) => pastIs_any W gp P hi (cv, pOf P cv)
      rw [pIs_over] at his1
      have hu := HPO.out.of cv
      have hvu := HPW.out cv ⟨h1, h2⟩
      have hat : 0 < pOf P cv → pIs P (cv, pOf P cv) = true := pIs_at HPO.out cv h1 h2
      generalize pOf P cv = u at hof his1 his2 hu hvu hat
      generalize pOf W0 cv = v at hofw hvu
      obtain ⟨hu0, hu1⟩ := hu
      have hd : decide (u < v) = false := decide_eq_false (by omega)
      have H1 := Lib.hid hof
      have H2 := Lib.hid hofw
      have H3 := Lib.hid his1
      clear hof hofw his1
      have hp15 := hp14.fr hq (fun h => h)
      have hw15 := hw14.fr hq (fun h => h)
      go_wp2_with fail
      refine (H1.out _ hp15).mono ?_
      rintro e x1 ⟨rfl, r1⟩
      go_wp2_with fail
      refine (H2.out _ (hw15.fr r1 (fun h => h))).mono ?_
      rintro e x2 ⟨rfl, r2⟩
      have r2' := r1.tr r2
      go_wp2_with fail
      refine (H1.out _ (hp15.fr r2' (fun h => h))).mono ?_
      rintro e x3 ⟨rfl, r3⟩
      have r3' := r2'.tr r3
      go_wp2_with fail
      refine (H3.out _ (hp15.fr r3' (fun h => h))).mono ?_
      rintro e x4 ⟨rfl, r4⟩
      have r4' := r3'.tr r4
      go_wp2_with fail
      refine (H1.out _ (hp15.fr r4' (fun h => h))).mono ?_
      rintro e x5 ⟨rfl, r5⟩
      have r5' := r4'.tr r5
      clear r1 r2 r3 r4 r5 r2' r3' r4'
      by_cases hpos : 0 < u
      · rw [hat hpos] at his2
        have H4 := Lib.hid his2
        clear his2 hat
        go_wp2_with fail
        refine (H1.out _ (hp15.fr r5' (fun h => h))).mono ?_
        rintro e x6 ⟨rfl, r6⟩
        have r6' := r5'.tr r6
        go_wp2_with fail
        refine (H4.out _ (hp15.fr r6' (fun h => h))).mono ?_
        rintro e x7 ⟨rfl, r7⟩
        go_wp2_with fail
        go_roundw
        case rel => exact ⟨j + 1, by omega, by have := HC.out; go_num, (hq.tr r6').tr r7⟩
        case measure => simp [intOf]; omega
      · clear his2 hat
        go_wp2_with fail
        go_roundw
        case rel => exact ⟨j + 1, by omega, by have := HC.out; go_num, hq.tr r5'⟩
        case measure => simp [intOf]; omega
    · obtain rfl : j = 8 := by omega
      rw [show ((8 : Nat) : Int) + 1 = 9 from rfl]
      have q23 := q22.tr hq
      have hp15 := hp14.fr hq (fun h => h)
      have ho11 := ho10.fr hq (fun _ _ h => h)
      clear hq hp14 hw14 ho10 q22 HPW
      go_wp2_with fail
      go_loopw [15] (fun i wx => KnownNw wr N i wx) (fun i _ => N - (intOf i).toNat)
      case atStart => exact ⟨0, Nat.zero_le _, rfl, Fr.refl _ _⟩
      case round =>
        obtain ⟨j, hj, rfl, hq⟩ := hrel
        by_cases hlt : j < N
        · have hlt2 : j < T.length := by rw [HNT.out]; exact hlt
          obtain ⟨b', o, hA4, hF, hc1, hc2⟩ := (ho11.fr hq (fun _ _ h => h)).sl.name hlt2
          have his := fun (W : World) (hi : IsPast W gp P) => pastIs_any W gp P hi T[j]
          rw [HPM.out _ (List.getElem_mem hlt2)] at his
          have H1 := Lib.hid his
          clear his
          subst hA4
          have hp16 := hp15.fr hq (fun h => h)
          go_wp2_with fail
          refine (H1.out _ hp16).mono ?_
          rintro e x1 ⟨rfl, r1⟩
          go_wp2_with fail
          go_roundw
          case rel => exact ⟨j + 1, by omega, by go_num, hq.tr r1⟩
          case measure => simp [intOf]; omega
        · have q24 := q23.tr hq
          have hp16 := hp15.fr hq (fun h => h)
          clear hq hp15 ho11 q23 HPM
          have hw : wrNums P ⟨true, []⟩ = ⟨true, encAll P⟩ := by rw [wrNums_right P _ HPO.out.right]; rfl
          have hlen := encAll_le P
          rw [HPO.out.1] at hlen
          have hrd := rdNums_past P HPO.out
          have HW := Lib.hid hw
          have HRD := Lib.hid hrd
          clear hw hrd
          go_wp2_with fail
          refine (newWriter_any _).mono ?_
          rintro e v12 ⟨rfl, iw, q25⟩
          have hp17 := hp16.fr q25 (fun h => h)
          have hwl := iw.bound _ rfl
          have hgl := hp16.2.lt
          go_wp2_with fail
          refine (pastWrite_any _ gp P hp17 _ _ _ iw (by omega) (by decide)).mono ?_
          rintro e v13 ⟨rfl, F2, iw2, f25, nf2⟩
          rw [HW.out] at iw2
          have hp18 := hp17.fr f25 (by omega)
          have q26 : Nw w v13 := (q24.tr q25).new f25 (fun b hb => by rw [hb]; exact q24.size)
          go_wp2_with fail
          refine (done_ok _ _ _ _ iw2 rfl (by show (encAll P).length ≤ _; omega)).mono ?_
          rintro e v14 ⟨A5, c5, rfl, hob, q27, nb⟩
          have hp19 := hp18.fr q27 (fun h => h)
          go_wp2_with fail
          refine (newReader_any _ _ _ _ _ hob.sl (by show (encAll P).length ≤ _; omega)).mono ?_
          rintro e v15 ⟨g5, F5, rfl, ird, q28, l5, n5⟩
          have hp20 := hp19.fr q28 (fun h => h)
          have hgl2 := hp19.2.lt
          have hrp := pastRead_any v15 F5 g5 _ ird
          rw [HRD.out] at hrp
          have HRP := Lib.hid hrp
          clear hrp
          have q29 : Nw w v15 := (q26.tr q27).tr q28
          go_wp2_with fail
          refine HRP.out.mono ?_
          rintro e v16 ⟨_, f29, hcase⟩
          rcases hcase with ⟨h, _⟩ | ⟨bs2, _, gt, hgt, _, ht, rfl⟩
          · cases h
          have hp21 := hp20.fr f29 (by omega)
          have hsz15 := hp20.2.lt
          have q30 : Nw w v16 := q29.new f29 (fun b hb => by rw [hb]; have := (q26.tr q27).size; omega)
          simp only at ht
          clear iw iw2 hob ird q25 f25 nf2 q26 q27 nb q28 l5 n5 f29 q29 hp16 hp17 hp18 hp19 hp20 HW HRD HRP q24
          go_wp2_with fail
          refine (equal17 _ _ _ _ ht hp21).mono ?_
          rintro e v17 ⟨rfl, q31⟩
          have q32 := q30.tr q31
          go_wp2_with fail
          refine (raise_ok_any _ (· < w.heap.size) _ _ _ a rfl (ha.fr q32 (fun _ _ h => h)) (by omega) gt P (ht.fr q31 (fun h => h)) (by omega) HOA.out).mono ?_
          rintro e v18 ⟨rfl, ht2, f33⟩
          rw [HPA.out] at ht2
          have q33 : Nw w v18 := q32.new f33 (fun b hb => by rw [hb]; omega)
          go_wp2_with fail
          refine (equal17 _ _ _ _ ht2 ((hp21.fr q31 (fun h => h)).fr f33 (by omega))).mono ?_
          rintro e v19 ⟨rfl, q34⟩
          go_wp2_with fail
          go_ret
          exact ⟨rfl, q33.tr q34⟩
end Go.Proofs.Ytoapobgnfgfobaa
