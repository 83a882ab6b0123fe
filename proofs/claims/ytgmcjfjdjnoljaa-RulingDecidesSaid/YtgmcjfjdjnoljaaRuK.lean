/- Rulings: the document's book decides. -/
import Derived.Test.YtgmcjfjdjnoljaaRuJ
import Derived.Test.YtgmcjfjdjnoljaaRulB
namespace Go.Proofs.Ytgmcjfjdjnoljaa
open Go Go.RowKit

/-- A copied verdict put behind the document's list. -/
theorem rb_end (n : Nat) {W w3 w6 : World} {F I : Nat → Prop} {g cap : Nat} {A : Option Addr} {l : List Ver} {cs : List Value} (hnl : n = l.length) (hb : Blk W g 31 #[.slice A n cap]) (ho : Own W 41 5 A n cap cs) (hv : VersC W I l cs)
    (hFg : F g) (hFA : ∀ k, inA A k → F k) (hFI : ∀ k, I k → F k ∧ k ≠ g ∧ ¬ inA A k) (hlt : ∀ k, F k → k < W.heap.size) (v : Ver) {A3 A6 : Option Addr} {c3 c6 : Nat} (hl3 : v.2.2.2.length ≤ c3) (hm3 : c3 ≤ maxLen)
    (hs3 : Sl w3 (fun k => W.heap.size ≤ k) A3 (rdgsCells v.2.2.2)) (q3 : Nw W w3)
    (hap : AppTo (w3.alloc (.cells #[I64 v.1.1, I64 v.1.2, .bool v.2.1, I64 v.2.2.1, .slice A3 v.2.2.2.length c3] 41)) 41 5 A n cap 1 cs (verL v A3 c3) A6 c6 w6) :
    RBTo W F g (l ++ [v]) (w6.setCell ⟨g, 0, none⟩ (.slice A6 (n + 1) c6)) ∧ Blk w6 g 31 #[.slice A n cap] ∧ Fr (inA A) W w6 := by
  subst hnl
  have hlen1 : (l ++ [v]).length = l.length + 1 := by simp
  obtain ⟨o6, _, h3⟩ := hap
  have fr : Fr (inA A) W w6 ∧ Fr (inA A) w3 w6 := by
    rcases h3 with ⟨_, _, _, hf⟩ | ⟨_, _, hf⟩
    · exact ⟨(Nw.on (q3.alloc _)).tr hf, ((Fr.refl _ w3).alloc _).tr hf⟩
    · exact ⟨(Nw.on (q3.alloc _)).tr (Nw.on hf), ((Fr.refl _ w3).alloc _).tr (Nw.on hf)⟩
  have a6 : ∀ k, inA A6 k → inA A k ∨ w3.heap.size ≤ k := by
    intro k hk
    rcases h3 with ⟨_, rfl, _, _⟩ | ⟨_, rfl, _⟩
    · exact .inl hk
    · right
      rw [(inA_some _ _).1 hk]
      simp
  obtain ⟨f6, f36⟩ := fr
  clear h3
  have hb6 := hb.fr f6 (ho.ne_ hb (by decide))
  refine ⟨?_, hb6, f6⟩
  have hAg : ¬ inA A6 g := o6.ne_ hb6 (by decide)
  have f27 : Fr (fun k => inA A k ∨ k = g) W (w6.setCell ⟨g, 0, none⟩ (.slice A6 (l.length + 1) c6)) := (f6.mono fun k hk => .inl (.inl hk)).setCell (.inl (.inr rfl)) _
  have f37 : Fr (fun k => inA A k ∨ k = g) w3 (w6.setCell ⟨g, 0, none⟩ (.slice A6 (l.length + 1) c6)) := (f36.mono fun k hk => .inl (.inl hk)).setCell (.inl (.inr rfl)) _
  have hs23 : W.heap.size ≤ w3.heap.size := q3.size
  have hs37 := f37.size
  have hAl := ho.lt
  have hgl := hb.lt
  have o7 := o6.setCell (p := ⟨g, 0, none⟩) hAg (.slice A6 (l.length + 1) c6)
  generalize hW7 : w6.setCell ⟨g, 0, none⟩ (.slice A6 (l.length + 1) c6) = w7 at *
  have hb7 : Blk w7 g 31 #[.slice A6 (l.length + 1) c6] := by rw [← hW7]; exact hb6.set_ 0 _
  refine ⟨fun k => F k ∨ (W.heap.size ≤ k ∧ k < w7.heap.size), ⟨A6, c6, cs ++ verL v A3 c3, fun k => I k ∨ (W.heap.size ≤ k ∧ k < w3.heap.size), ?_, ?_, ?_, .inl hFg, fun k hk => ?_, fun k hk => ?_, fun k hk => ?_⟩, ?_, fun k hk => ?_⟩
  · rw [hlen1]; exact hb7
  · rw [hlen1]; exact o7
  · refine VersC.snoc ((hv.fr f27 fun k hk => ?_).mono fun k hk _ => .inl hk) ⟨A3, c3, rfl, hl3, hm3, (hs3.mono (F' := fun k => W.heap.size ≤ k ∧ k < w3.heap.size) fun k hk hk2 => ⟨hk, hk2⟩).fr f37 (fun k hk => ?_) |>.mono fun k hk _ => .inr hk⟩
    · rintro (h1 | h1)
      · exact (hFI k hk).2.2 h1
      · exact (hFI k hk).2.1 h1
    · rintro (h1 | h1)
      · have := hAl k h1; omega
      · omega
  · rcases a6 k hk with h1 | h1
    · exact .inl (hFA k h1)
    · have := o7.lt k hk
      exact .inr ⟨by omega, this⟩
  · rcases hk with h1 | h1
    · obtain ⟨h2, h3, h4⟩ := hFI k h1
      refine ⟨.inl h2, h3, fun h6 => ?_⟩
      rcases a6 k h6 with h7 | h7
      · exact h4 h7
      · have := hlt k h2; omega
    · refine ⟨.inr ⟨by omega, by omega⟩, by omega, fun h6 => ?_⟩
      rcases a6 k h6 with h7 | h7
      · have := hAl k h7; omega
      · omega
  · rcases hk with h1 | h1
    · have := hlt k h1
      have := f27.size
      omega
    · exact h1.2
  · exact f27.mono fun k hk => .inl (hk.elim (hFA k) (fun e => by subst e; exact hFg))
  · exact hk.imp id fun h => h.1
theorem verL_one (v : Ver) (A3 : Option Addr) (c3 : Nat) : ∀ u ∈ verL v A3 c3, u.oneCell' = true := fun u hu => by
  simp only [verL, List.mem_cons, List.not_mem_nil, or_false] at hu
  rcases hu with rfl | rfl | rfl | rfl | rfl <;> rfl
set_option maxRecDepth 100000 in
set_option maxHeartbeats 4000000 in
theorem rbDecide_any (w : World) (F I' : Nat → Prop) (g : Nat) (l : List Ver) (h : IsRB w F g l) (v : Ver) (A' : Option Addr) (c' : Nat) (hs : Sl w I' A' (rdgsCells v.2.2.2)) (hI' : ∀ k, I' k → ¬ F k) (hsz : VerSz v) (hz : VersSz l) (hl : l.length ≤ 2000000000) :
    Calls Try.prog 16 #[.pointer (some ⟨g, 0, none⟩), VerV v A' c'] w fun e w' => DecTo w F g (decV l v) IsRB e w' := by
  have hd0 := @decV_bad l v
  have hd1 := fun u => @decV_old l v u
  have hd2 := @decV_low l v
  have hd3 := @decV_new l v
  have hright := fun (w1 : World) (q : Nw w w1) => rright_any w1 I' v A' c' (hs.fr q (fun _ _ h => h)) hsz.2 hsz.1
  have hof := fun (w1 : World) (q : Nw w w1) => rbOf_any w1 F g l (h.fr q (fun _ _ h => h)) v.1 hz hl
  have hcop := fun (w1 : World) (S : Nat → Prop) (q : Fr S w w1) (hS : ∀ k, I' k → ¬ S k) => rcopied_any w1 I' v A' c' (hs.fr q hS) (by have := hsz.1; omega)
  obtain ⟨A, cap, cs, I, hb, ho, hv, hFg, hFA, hFI, hFlt⟩ := id h
  have hla : ∀ (h0 : l.length ≠ 0), lastAt l = (l[l.length - 1]'(by omega)).2.2.1 := fun h0 => lastAt_len h0
  have hla0 : l.length = 0 → lastAt l = 0 := fun h0 => by rw [List.eq_nil_of_length_eq_zero h0]; rfl
  have hpos : verOk v = true → 1 ≤ v.2.2.1 := fun hv => (verOk_parts hv).2.1.1
  obtain ⟨d, hd⟩ : ∃ d, decV l v = d := ⟨_, rfl⟩
  rw [hd] at hd0 hd1 hd2 hd3 ⊢
  generalize verOk v = b at hd0 hd1 hd2 hd3 hright hpos
  generalize findV v.1 l = o at hd1 hd2 hd3 hof
  have D0 := Lib.hid hd0
  have D1 := Lib.hid hd1
  have D2 := Lib.hid hd2
  have D3 := Lib.hid hd3
  have HPOS := Lib.hid hpos
  clear hd0 hd1 hd2 hd3 hd hpos
  -- the box, and what is told
  have q0 : Nw w ((w.alloc (.cells #[I64 v.1.1, I64 v.1.2, .bool v.2.1, I64 v.2.2.1, .slice A' v.2.2.2.length c'] 41)).alloc (.cells zeroC 41)) := ((Fr.refl _ w).alloc _).alloc _
  have hB := (Blk.new w 41 #[I64 v.1.1, I64 v.1.2, .bool v.2.1, I64 v.2.2.1, .slice A' v.2.2.2.length c']).alloc (.cells zeroC 41)
  have hD : Blk ((w.alloc (.cells #[I64 v.1.1, I64 v.1.2, .bool v.2.1, I64 v.2.2.1, .slice A' v.2.2.2.length c'] 41)).alloc (.cells zeroC 41)) (w.heap.size + 1) 41 zeroC := by
    simpa using Blk.new (w.alloc (.cells #[I64 v.1.1, I64 v.1.2, .bool v.2.1, I64 v.2.2.1, .slice A' v.2.2.2.length c'] 41)) 41 zeroC
  go_enter Try.func16, Try.ntmps16
  go_wp2_with (refine wpList_load_row rfl 41 _ rfl w.heap.size rfl 41 _ (0, 0) _ hB Try.underlying41 rfl rver_size ?_)
  refine (hright _ q0).mono ?_
  rintro e w2 ⟨rfl, q2⟩
  have Q2 : Nw w w2 := q0.tr q2
  have hB2 := hB.fr q2 (fun h => h)
  have hD2 := hD.fr q2 (fun h => h)
  have hws : w.heap.size + 1 < w2.heap.size := hD2.lt
  have k0 : w2.cell? ⟨w.heap.size, 0, none⟩ = some (I64 v.1.1) := by simpa using hB2.cell 0
  have k1 : w2.cell? ⟨w.heap.size, 1, none⟩ = some (I64 v.1.2) := by simpa using hB2.cell 1
  clear hB hD q0 q2 hright
  cases b
  · have hE := hD2.row zeroC
    go_wp2_with (refine wpList_store_row rfl 41 _ _ rfl (w.heap.size + 1) _ rfl rfl 41 _ hD2 rver_size rfl zero_one ?_)
    refine bodyPost_ret (v := .tuple #[.agg zeroC, .int .i64 2]) ?_ rfl ?_
    · exact rret_zero _ (w.heap.size + 1) _ _ _ rfl rfl rfl _ rfl hE
    have hw : Nw w (w2.setRow (w.heap.size + 1) zeroC) := Q2.setRow (.inr (by omega)) _
    rw [D0.out (by trivial)]
    exact ⟨none, 0, F, rfl, Nat.le_refl _, Nat.zero_le _, Sl.nil _ _ _, h.fr hw (fun _ _ h => h), hw.on, fun k hk => .inl hk⟩
  · go_wp2_with fail
    refine (hof w2 Q2).mono ?_
    rintro e w3 ⟨A3, c3, rfl, hl3, hm3, hs3, q3⟩
    obtain ⟨u, hu⟩ : ∃ u, o.getD verZero = u := ⟨_, rfl⟩
    obtain ⟨is, his⟩ : ∃ is, o.isSome = is := ⟨_, rfl⟩
    rw [hu] at hl3 hs3 ⊢
    rw [his]
    have HU := Lib.hid hu
    have HS := Lib.hid his
    clear hu his
    have hT := Blk.new w3 41 zeroC
    have h1T := ver_one u.1.1 u.1.2 u.2.1 u.2.2.1 (.slice A3 u.2.2.2.length c3) rfl
    have hT2 := hT.row #[I64 u.1.1, I64 u.1.2, .bool u.2.1, I64 u.2.2.1, .slice A3 u.2.2.2.length c3]
    have hw3 : w2.heap.size ≤ w3.heap.size := q3.size
    obtain ⟨w4, hw4⟩ : ∃ w4, w4 = (w3.alloc (.cells zeroC 41)).setRow w3.heap.size #[I64 u.1.1, I64 u.1.2, .bool u.2.1, I64 u.2.2.1, .slice A3 u.2.2.2.length c3] := ⟨_, rfl⟩
    have q34 : Fr (· = w3.heap.size) w3 w4 := by rw [hw4]; exact ((Fr.refl (· = w3.heap.size) w3).alloc _).setRow (.inl rfl) _
    have n34 : Nw w3 w4 := q34.mono fun k hk => .inr (by omega)
    have hB4 := (hB2.fr q3 (fun h => h)).fr n34 (fun h => h)
    have hD4 := (hD2.fr q3 (fun h => h)).fr n34 (fun h => h)
    rw [← hw4] at hT2
    have Q4 : Nw w w4 := (Q2.tr q3).tr n34
    have HW4 := Lib.hid hw4
    clear hw4 hB2 hD2 k0 k1
    cases is
    · have k3 : w4.cell? ⟨w.heap.size, 3, none⟩ = some (I64 v.2.2.1) := by simpa using hB4.cell 3
      have hno : o = none := by
        have h1 := HS.out
        cases o with
        | none => rfl
        | some x => cases h1
      have HNO := Lib.hid hno
      clear hno
      obtain ⟨n, hnl⟩ : ∃ n, n = l.length := ⟨_, rfl⟩
      have hbn : Blk w g 31 #[.slice A n cap] := by rw [hnl]; exact hb
      have hon : Own w 41 5 A n cap cs := by rw [hnl]; exact ho
      have hln : n ≤ 2000000000 := by omega
      have HN := Lib.hid hnl
      have g4 : w4.cell? ⟨g, 0, none⟩ = some (.slice A n cap) := by simpa using (hbn.fr Q4 (fun h => h)).cell 0
      have d3 := fun (n : Later w4) => n.cell k3
      have d4 := fun (n : Later w4) => n.cell g4
      by_cases h0 : n = 0
      · have hle : ¬ v.2.2.1 ≤ lastAt l := by
          have h1 := HPOS.out (by trivial)
          have h2 := hla0 (by omega)
          omega
        have HLE := Lib.hid hle
        have h0i : decide ((0 : Int) < (n : Int)) = false := decide_eq_false (by omega)
        have h0n : decide (0 < n) = false := decide_eq_false (by omega)
        have HZ := Lib.hid h0
        clear hle h0 hnl hla0 hla hb ho hl
        go_wp2_with (refine wpList_store_row rfl 41 _ _ rfl w3.heap.size _ rfl rfl 41 _ hT rver_size rfl h1T ?_)
        rw [← HW4.out]
        refine wp_region_later (by kernel_rfl) (by kernel_rfl) ?_
        repeat (go_big_quiet_step (fail))
        refine wpQuiet_later fun w5 q5 => ?_
        clear d3 d4 h0i h0n k3 g4
        have Q5 : Nw w w5 := Q4.tr q5
        have hB5 := hB4.fr q5 (fun h => h)
        have hD5 := hD4.fr q5 (fun h => h)
        have hb5 := hbn.fr Q5.drew (fun h => h)
        have ho5 := hon.fr Q5.drew (fun _ _ h => h)
        have hv5 := hv.fr Q5.drew (fun _ _ h => h)
        have hw5 : w2.heap.size ≤ w5.heap.size := by have := n34.size; have := q5.size; omega
        have hwd : w5.drew.heap.size = w5.heap.size := rfl
        have hww : w.heap.size ≤ w5.drew.heap.size := by omega
        have b0 : w5.drew.cell? ⟨w.heap.size, 0, none⟩ = some (I64 v.1.1) := by simpa using hB5.drew.cell 0
        have b1 : w5.drew.cell? ⟨w.heap.size, 1, none⟩ = some (I64 v.1.2) := by simpa using hB5.drew.cell 1
        have b2 : w5.drew.cell? ⟨w.heap.size, 2, none⟩ = some (.bool v.2.1) := by simpa using hB5.drew.cell 2
        have b3 : w5.drew.cell? ⟨w.heap.size, 3, none⟩ = some (I64 v.2.2.1) := by simpa using hB5.drew.cell 3
        have b4 : w5.drew.cell? ⟨w.heap.size, 4, none⟩ = some (.slice A' v.2.2.2.length c') := by simpa using hB5.drew.cell 4
        have hg : ∀ w1, Nw w5.drew w1 → w1.cell? ⟨g, 0, none⟩ = some (.slice A n cap) := fun w1 q => by simpa using (hb5.fr q (fun h => h)).cell 0
        have gg0 := hg _ (Fr.refl _ w5.drew)
        have hbk : ∀ w1, Nw w5.drew w1 → w1.cell? ⟨w.heap.size, 0, none⟩ = some (I64 v.1.1) ∧ w1.cell? ⟨w.heap.size, 1, none⟩ = some (I64 v.1.2) ∧ w1.cell? ⟨w.heap.size, 2, none⟩ = some (.bool v.2.1) ∧ w1.cell? ⟨w.heap.size, 3, none⟩ = some (I64 v.2.2.1) ∧ w1.cell? ⟨w.heap.size, 4, none⟩ = some (.slice A' v.2.2.2.length c') := fun w1 q => by
          have h := hB5.drew.fr q (fun h => h)
          exact ⟨by simpa using h.cell 0, by simpa using h.cell 1, by simpa using h.cell 2, by simpa using h.cell 3, by simpa using h.cell 4⟩
        have hcon := hcop w5.drew (fun _ => False) Q5.drew (fun _ _ h => h)
        have hby : (n + 1) * 56 ≤ 140737488355328 := by omega
        have hmx : n + 1 ≤ maxLen := by unfold maxLen; omega
        have hlt5 : ∀ k, F k → k < w5.drew.heap.size := fun k hk => by have := hFlt k hk; omega
        clear hT hT2 hB4 hD4 h1T
        go_wp2_with fail
        go_region_law (first | (refine step_append2g (by rfl) _ _ _ (by rfl) 56 (.agg #[.int .i64 0, .int .i64 0, .bool false, .int .i64 0, .slice none 0 0]) Try.underlying29 info_rver rfl (by decide) (by rfl) (o3.alloc _) (by rfl) (sl_new w3 41 (verL v A3 c3) _ rfl) rfl (verL_one v A3 c3) hby hmx ?_; intro A6 c6 w6 hap6; obtain ⟨hend, hb6, f6⟩ := rb_end n HN.out hb5 ho5 hv5 hFg hFA hFI hlt5 v hl3 hm3 hs3 q3 hap6; have gg6 : w6.cell? ⟨g, 0, none⟩ = some (.slice A n cap) := hb6.cell 0; have fg6 := hb6.frozen 0) | (go_simp; go_at_call 39; refine hcon.mono ?_; rintro e w3 ⟨A3, c3, rfl, hl3, hm3, hs3, q3⟩; obtain ⟨x0, x1, x2, x3, x4⟩ := hbk w3 q3; have gg3 := hg w3 q3; have ggA := fun o => hg _ (q3.alloc o); have o3 := ho5.fr q3 (fun _ _ h => h)))
        all_goals
          obtain ⟨F6, hb7, f7, n7⟩ := hend
          obtain ⟨w7, hw7⟩ : ∃ w7, w7 = w6.setCell ⟨g, 0, none⟩ (.slice A6 (n + 1) c6) := ⟨_, rfl⟩
          rw [← hw7] at hb7 f7 ⊢
          have HW7 := Lib.hid hw7
          clear hw7 gg6 fg6 hb6 f6
          have hB7 := hB5.drew.fr f7 (fun hF => by have := hFlt _ hF; omega)
          have hD7 := hD5.drew.fr f7 (fun hF => by have := hFlt _ hF; omega)
          have f07 : Fr F w w7 := (Nw.on Q5.drew).tr f7
          have hw7s : w5.drew.heap.size ≤ w7.heap.size := f7.size
          go_wp2_with (first | (refine wpList_load_row rfl 41 _ rfl w.heap.size rfl 41 _ (0, 0) _ hB7 Try.underlying41 rfl rver_size ?_) | (go_at_call 39; refine (hcop w7 F f07 hI').mono ?_; rintro e w8 ⟨A8, c8, rfl, hl8, hm8, hs8, q8⟩; have hD8 := hD7.fr q8 (fun h => h); have h18 := ver_one v.1.1 v.1.2 v.2.1 v.2.2.1 (.slice A8 v.2.2.2.length c8) rfl) | (refine wpList_store_row rfl 41 _ _ rfl (w.heap.size + 1) _ rfl rfl 41 _ hD8 rver_size rfl h18 ?_))
          have hE := hD8.row #[I64 v.1.1, I64 v.1.2, .bool v.2.1, I64 v.2.2.1, .slice A8 v.2.2.2.length c8]
          refine bodyPost_ret (v := .tuple #[VerV v A8 c8, .int .i64 0]) ?_ rfl ?_
          · exact rret_zero _ (w.heap.size + 1) _ _ _ rfl rfl rfl _ rfl hE
          have q89 : Fr (· = w.heap.size + 1) w8 (w8.setRow (w.heap.size + 1) #[I64 v.1.1, I64 v.1.2, .bool v.2.1, I64 v.2.2.1, .slice A8 v.2.2.2.length c8]) := (Fr.refl (· = w.heap.size + 1) w8).setRow (.inl rfl) _
          have hn6 : ∀ k, F6 k → k ≠ w.heap.size + 1 := fun k hk => by
            rcases n7 k hk with h1 | h1
            · have := hFlt k h1; omega
            · omega
          rw [D3.out (by trivial) HNO.out HLE.out]
          refine ⟨A8, c8, F6, rfl, hl8, hm8, ?_, (hb7.fr q8 (fun _ _ h => h)).fr q89 (fun k hk => hn6 k hk), (f07.tr (Nw.on q8)).trans q89 fun k hk => .inr (by omega), fun k hk => ?_⟩
          · refine (hs8.fr q89 fun k hk e => ?_).mono fun k hk _ => ⟨by omega, fun hF => ?_⟩
            · omega
            · have := hb7.lt k hF; omega
          · exact (n7 k hk).imp id fun h => by omega
      · have hlast := hla (by omega)
        have hk : l.length - 1 < l.length := by omega
        obtain ⟨bA, oA, A9, c9, rfl, _, hc, hx1⟩ := (ho.fr Q4 (fun _ _ h => h)).sl.ver (hv.fr Q4 (fun _ _ h => h)) hk
        have h3a := hc 3 _ rfl
        have e1 : n - 1 = l.length - 1 := by rw [hnl]
        have h3 : w4.cell? ⟨bA, oA + (n - 1) * 5 + 3, none⟩ = some (I64 (lastAt l)) := by rw [hlast, e1]; exact h3a
        have d5 := fun (n : Later w4) => n.cell h3
        have h0i : decide ((0 : Int) < (n : Int)) = true := decide_eq_true (by omega)
        have h0n : decide (0 < n) = true := decide_eq_true (by omega)
        have h0z : ¬ (n : Int) = 0 := by omega
        have h1n : 1 ≤ n := by omega
        by_cases hle : v.2.2.1 ≤ lastAt l
        · have hlb : decide (v.2.2.1 ≤ lastAt l) = true := decide_eq_true hle
          have HLE := Lib.hid hle
          clear hle hlast hc hx1 h3a e1 h3 hk hnl hla0 hla hb ho hl
          go_wp2_with (refine wpList_store_row rfl 41 _ _ rfl w3.heap.size _ rfl rfl 41 _ hT rver_size rfl h1T ?_)
          rw [← HW4.out]
          refine wp_region_later (by kernel_rfl) (by kernel_rfl) ?_
          repeat (go_big_quiet_step (fail))
          refine wpQuiet_later fun w5 q5 => ?_

          have hD5 := hD4.fr q5 (fun h => h)
          have hE := hD5.row zeroC
          have hw5 : w2.heap.size ≤ w5.heap.size := by have := n34.size; have := q5.size; omega
          have Q5 : Nw w w5 := Q4.tr q5
          go_wp2_with (refine wpList_store_row rfl 41 _ _ rfl (w.heap.size + 1) _ rfl rfl 41 _ hD5 rver_size rfl zero_one ?_)
          refine bodyPost_ret (v := .tuple #[.agg zeroC, .int .i64 2]) ?_ rfl ?_
          · exact rret_zero _ (w.heap.size + 1) _ _ _ rfl rfl rfl _ rfl hE
          have hw : Nw w (w5.setRow (w.heap.size + 1) zeroC) := Q5.setRow (.inr (by omega)) _
          rw [D2.out (by trivial) HNO.out HLE.out]
          exact ⟨none, 0, F, rfl, Nat.le_refl _, Nat.zero_le _, Sl.nil _ _ _, h.fr hw (fun _ _ h => h), hw.on, fun k hk => .inl hk⟩
        · have hlb : decide (v.2.2.1 ≤ lastAt l) = false := decide_eq_false hle
          have HLE := Lib.hid hle
          clear hle hlast hc hx1 h3a e1 h3 hk hnl hla0 hla hb ho hl
          go_wp2_with (refine wpList_store_row rfl 41 _ _ rfl w3.heap.size _ rfl rfl 41 _ hT rver_size rfl h1T ?_)
          rw [← HW4.out]
          refine wp_region_later (by kernel_rfl) (by kernel_rfl) ?_
          repeat (go_big_quiet_step (fail))
          refine wpQuiet_later fun w5 q5 => ?_
          clear d3 d4 d5 h0i h0n h0z h1n hlb k3 g4
          have Q5 : Nw w w5 := Q4.tr q5
          have hB5 := hB4.fr q5 (fun h => h)
          have hD5 := hD4.fr q5 (fun h => h)
          have hb5 := hbn.fr Q5.drew (fun h => h)
          have ho5 := hon.fr Q5.drew (fun _ _ h => h)
          have hv5 := hv.fr Q5.drew (fun _ _ h => h)
          have hw5 : w2.heap.size ≤ w5.heap.size := by have := n34.size; have := q5.size; omega
          have hwd : w5.drew.heap.size = w5.heap.size := rfl
          have hww : w.heap.size ≤ w5.drew.heap.size := by omega
          have b0 : w5.drew.cell? ⟨w.heap.size, 0, none⟩ = some (I64 v.1.1) := by simpa using hB5.drew.cell 0
          have b1 : w5.drew.cell? ⟨w.heap.size, 1, none⟩ = some (I64 v.1.2) := by simpa using hB5.drew.cell 1
          have b2 : w5.drew.cell? ⟨w.heap.size, 2, none⟩ = some (.bool v.2.1) := by simpa using hB5.drew.cell 2
          have b3 : w5.drew.cell? ⟨w.heap.size, 3, none⟩ = some (I64 v.2.2.1) := by simpa using hB5.drew.cell 3
          have b4 : w5.drew.cell? ⟨w.heap.size, 4, none⟩ = some (.slice A' v.2.2.2.length c') := by simpa using hB5.drew.cell 4
          have hg : ∀ w1, Nw w5.drew w1 → w1.cell? ⟨g, 0, none⟩ = some (.slice (some ⟨bA, oA, none⟩) n cap) := fun w1 q => by simpa using (hb5.fr q (fun h => h)).cell 0
          have gg0 := hg _ (Fr.refl _ w5.drew)
          have hbk : ∀ w1, Nw w5.drew w1 → w1.cell? ⟨w.heap.size, 0, none⟩ = some (I64 v.1.1) ∧ w1.cell? ⟨w.heap.size, 1, none⟩ = some (I64 v.1.2) ∧ w1.cell? ⟨w.heap.size, 2, none⟩ = some (.bool v.2.1) ∧ w1.cell? ⟨w.heap.size, 3, none⟩ = some (I64 v.2.2.1) ∧ w1.cell? ⟨w.heap.size, 4, none⟩ = some (.slice A' v.2.2.2.length c') := fun w1 q => by
            have h := hB5.drew.fr q (fun h => h)
            exact ⟨by simpa using h.cell 0, by simpa using h.cell 1, by simpa using h.cell 2, by simpa using h.cell 3, by simpa using h.cell 4⟩
          have hcon := hcop w5.drew (fun _ => False) Q5.drew (fun _ _ h => h)
          have hby : (n + 1) * 56 ≤ 140737488355328 := by omega
          have hmx : n + 1 ≤ maxLen := by unfold maxLen; omega
          have hlt5 : ∀ k, F k → k < w5.drew.heap.size := fun k hk => by have := hFlt k hk; omega
          clear hT hT2 hB4 hD4 h1T
          go_wp2_with fail
          go_region_law (first | (refine step_append2g (by rfl) _ _ _ (by rfl) 56 (.agg #[.int .i64 0, .int .i64 0, .bool false, .int .i64 0, .slice none 0 0]) Try.underlying29 info_rver rfl (by decide) (by rfl) (o3.alloc _) (by rfl) (sl_new w3 41 (verL v A3 c3) _ rfl) rfl (verL_one v A3 c3) hby hmx ?_; intro A6 c6 w6 hap6; obtain ⟨hend, hb6, f6⟩ := rb_end n HN.out hb5 ho5 hv5 hFg hFA hFI hlt5 v hl3 hm3 hs3 q3 hap6; have gg6 : w6.cell? ⟨g, 0, none⟩ = some (.slice (some ⟨bA, oA, none⟩) n cap) := hb6.cell 0; have fg6 := hb6.frozen 0) | (go_simp; go_at_call 39; refine hcon.mono ?_; rintro e w3 ⟨A3, c3, rfl, hl3, hm3, hs3, q3⟩; obtain ⟨x0, x1, x2, x3, x4⟩ := hbk w3 q3; have gg3 := hg w3 q3; have ggA := fun o => hg _ (q3.alloc o); have o3 := ho5.fr q3 (fun _ _ h => h)))
          all_goals
            obtain ⟨F6, hb7, f7, n7⟩ := hend
            obtain ⟨w7, hw7⟩ : ∃ w7, w7 = w6.setCell ⟨g, 0, none⟩ (.slice A6 (n + 1) c6) := ⟨_, rfl⟩
            rw [← hw7] at hb7 f7 ⊢
            have HW7 := Lib.hid hw7
            clear hw7 gg6 fg6 hb6 f6
            have hB7 := hB5.drew.fr f7 (fun hF => by have := hFlt _ hF; omega)
            have hD7 := hD5.drew.fr f7 (fun hF => by have := hFlt _ hF; omega)
            have f07 : Fr F w w7 := (Nw.on Q5.drew).tr f7
            have hw7s : w5.drew.heap.size ≤ w7.heap.size := f7.size
            go_wp2_with (first | (refine wpList_load_row rfl 41 _ rfl w.heap.size rfl 41 _ (0, 0) _ hB7 Try.underlying41 rfl rver_size ?_) | (go_at_call 39; refine (hcop w7 F f07 hI').mono ?_; rintro e w8 ⟨A8, c8, rfl, hl8, hm8, hs8, q8⟩; have hD8 := hD7.fr q8 (fun h => h); have h18 := ver_one v.1.1 v.1.2 v.2.1 v.2.2.1 (.slice A8 v.2.2.2.length c8) rfl) | (refine wpList_store_row rfl 41 _ _ rfl (w.heap.size + 1) _ rfl rfl 41 _ hD8 rver_size rfl h18 ?_))
            have hE := hD8.row #[I64 v.1.1, I64 v.1.2, .bool v.2.1, I64 v.2.2.1, .slice A8 v.2.2.2.length c8]
            refine bodyPost_ret (v := .tuple #[VerV v A8 c8, .int .i64 0]) ?_ rfl ?_
            · exact rret_zero _ (w.heap.size + 1) _ _ _ rfl rfl rfl _ rfl hE
            have q89 : Fr (· = w.heap.size + 1) w8 (w8.setRow (w.heap.size + 1) #[I64 v.1.1, I64 v.1.2, .bool v.2.1, I64 v.2.2.1, .slice A8 v.2.2.2.length c8]) := (Fr.refl (· = w.heap.size + 1) w8).setRow (.inl rfl) _
            have hn6 : ∀ k, F6 k → k ≠ w.heap.size + 1 := fun k hk => by
              rcases n7 k hk with h1 | h1
              · have := hFlt k h1; omega
              · omega
            rw [D3.out (by trivial) HNO.out HLE.out]
            refine ⟨A8, c8, F6, rfl, hl8, hm8, ?_, (hb7.fr q8 (fun _ _ h => h)).fr q89 (fun k hk => hn6 k hk), (f07.tr (Nw.on q8)).trans q89 fun k hk => .inr (by omega), fun k hk => ?_⟩
            · refine (hs8.fr q89 fun k hk e => ?_).mono fun k hk _ => ⟨by omega, fun hF => ?_⟩
              · omega
              · have := hb7.lt k hF; omega
            · exact (n7 k hk).imp id fun h => by omega
    · have hE := hD4.row #[I64 u.1.1, I64 u.1.2, .bool u.2.1, I64 u.2.2.1, .slice A3 u.2.2.2.length c3]
      go_wp2_with (first | (refine wpList_store_row rfl 41 _ _ rfl w3.heap.size _ rfl rfl 41 _ hT rver_size rfl h1T ?_; rw [← HW4.out]) | (refine wpList_load_row rfl 41 _ rfl w3.heap.size rfl 41 _ (0, 0) _ hT2 Try.underlying41 rfl rver_size ?_) | (refine wpList_store_row rfl 41 _ _ rfl (w.heap.size + 1) _ rfl rfl 41 _ hD4 rver_size rfl h1T ?_))
      refine bodyPost_ret (v := .tuple #[VerV u A3 c3, .int .i64 0]) ?_ rfl ?_
      · exact rret_zero _ (w.heap.size + 1) _ _ _ rfl rfl rfl _ rfl hE
      have hou : o = some u := by
        have h1 := HS.out
        have h2 := HU.out
        cases o with
        | none => cases h1
        | some x => rw [← h2]; rfl
      have q45 : Fr (· = w.heap.size + 1) w4 (w4.setRow (w.heap.size + 1) #[I64 u.1.1, I64 u.1.2, .bool u.2.1, I64 u.2.2.1, .slice A3 u.2.2.2.length c3]) := (Fr.refl (· = w.heap.size + 1) w4).setRow (.inl rfl) _
      have hw : Nw w (w4.setRow (w.heap.size + 1) #[I64 u.1.1, I64 u.1.2, .bool u.2.1, I64 u.2.2.1, .slice A3 u.2.2.2.length c3]) := Q4.trans q45 fun k hk => .inr (by omega)
      rw [D1.out u (by trivial) hou]
      refine ⟨A3, c3, F, rfl, hl3, hm3, ?_, h.fr hw (fun _ _ h => h), hw.on, fun k hk => .inl hk⟩
      refine (((hs3.mono (F' := fun k => w2.heap.size ≤ k ∧ k < w3.heap.size) fun k h1 h2 => ⟨h1, h2⟩).fr q34 fun k hk e => ?_).fr q45 fun k hk e => ?_).mono fun k hk _ => ⟨by omega, fun hF => ?_⟩
      · omega
      · omega
      · have := hFlt k hF; omega
end Go.Proofs.Ytgmcjfjdjnoljaa
