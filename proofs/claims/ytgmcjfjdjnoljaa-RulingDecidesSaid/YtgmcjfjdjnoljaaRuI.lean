/- Rulings: the program's book decides. -/
import Derived.Test.YtgmcjfjdjnoljaaRuH
namespace Go.Proofs.Ytgmcjfjdjnoljaa
open Go Go.RowKit

theorem lastAt_len {l : List Ver} (h : l.length ≠ 0) : lastAt l = (l[l.length - 1]'(by omega)).2.2.1 := by
  unfold lastAt
  rw [List.getLast?_eq_getElem?, List.getElem?_eq_getElem (by omega)]
set_option maxRecDepth 100000 in
theorem bkLast_any (w : World) (F : Nat → Prop) (g : Nat) (l : List Ver) (h : IsBk w F g l) (hl : l.length ≤ 2000000000) :
    Calls Try.prog 43 #[.pointer (some ⟨g, 0, none⟩)] w fun e w' => e = .returned (.int .i64 (lastAt l)) ∧ Nw w w' := by
  obtain ⟨A, cap, hm, cs, I, hb, ho, hv, _⟩ := id h
  have g0 : w.cell? ⟨g, 0, none⟩ = some (.slice A l.length cap) := by simpa using hb.cell 0
  by_cases h0 : l.length = 0
  · have e : lastAt l = 0 := by rw [List.eq_nil_of_length_eq_zero h0]; rfl
    rw [e]
    rw [h0] at g0
    clear hv ho hb h
    go_enter Try.func43, Try.ntmps43
    go_wp2
    go_ret
    exact ⟨rfl, Fr.refl _ _⟩
  · rw [lastAt_len h0]
    have hk : l.length - 1 < l.length := by omega
    obtain ⟨b, o, A', c', rfl, _, hc, hx1⟩ := ho.sl.ver hv hk
    have h3 := hc 3 _ rfl
    obtain ⟨n, hn⟩ : ∃ n, l.length = n := ⟨_, rfl⟩
    generalize l[l.length - 1] = v at h3 ⊢
    rw [hn] at g0 h3 h0 hl
    have h0i : ¬ (n : Int) = 0 := by omega
    clear hx1 hc hv ho hb h hk hn
    go_enter Try.func43, Try.ntmps43
    go_wp2
    go_quiet (fail)
    go_wp2
    go_ret
    exact ⟨rfl, (Fr.refl _ w).drewN _⟩
/-- What a decision tells and leaves. -/
def DecTo (w : World) (F : Nat → Prop) (g : Nat) (d : Ver × Int × List Ver) (Bk : World → (Nat → Prop) → Nat → List Ver → Prop) (e : Ending) (w' : World) : Prop :=
  ∃ A c F', e = .returned (.tuple #[VerV d.1 A c, .int .i64 d.2.1]) ∧ d.1.2.2.2.length ≤ c ∧ c ≤ maxLen ∧ Sl w' (fun k => w.heap.size ≤ k ∧ ¬ F' k) A (rdgsCells d.1.2.2.2) ∧ Bk w' F' g d.2.2 ∧ Fr F w w' ∧ ∀ k, F' k → F k ∨ w.heap.size ≤ k
theorem ret_zero (w : World) (gD : Nat) (e : Int) (tmps : Array Value) (fn : Func) (hr : fn.results = #[.cell 4 38, .tmp 5]) (hp : tmps.getD 4 undef = .pointer (some ⟨gD, 0, none⟩)) (hq : tmps.getD 5 undef = .int .i64 e) (cs : Array Value) (h5 : cs.size = 5) (hE : Blk w gD 38 cs) :
    (results fn tmps).run Try.prog w = .ok (.tuple #[.agg cs, .int .i64 e]) w :=
  results_cell_tmp_row hr _ _ gD 38 _ (0, 0) _ _ hp hq hE Try.underlying38 rfl (by rw [h5]; exact ver_size)
set_option maxRecDepth 100000 in
set_option maxHeartbeats 4000000 in
theorem bkDecide_any (w : World) (F I' : Nat → Prop) (g : Nat) (l : List Ver) (h : IsBk w F g l) (v : Ver) (A' : Option Addr) (c' : Nat) (hs : Sl w I' A' (rdgsCells v.2.2.2)) (hI' : ∀ k, I' k → ¬ F k) (hc1 : v.2.2.2.length ≤ c') (hc2 : c' ≤ maxLen) (hsz : VerSz v) (hz : VersSz l) (hn : NmWf v.1) (hl : l.length ≤ 2000000000) :
    Calls Try.prog 15 #[.pointer (some ⟨g, 0, none⟩), VerV v A' c'] w fun e w' => DecTo w F g (decV l v) IsBk e w' := by
  have hd0 := @decV_bad l v
  have hd1 := fun u => @decV_old l v u
  have hd2 := @decV_low l v
  have hd3 := @decV_new l v
  have hright := fun (w1 : World) (q : Nw w w1) => right_one w1 I' v A' c' (hs.fr q (fun _ _ h => h)) hc1 hc2 hsz
  have hof := fun (w1 : World) (q : Nw w w1) => bkOf_any w1 F g l (h.fr q (fun _ _ h => h)) v.1 hn hz hl
  have hput := fun (w1 : World) (q : Nw w w1) (hf : findV v.1 l = none) => bkPut_any w1 F I' g l (h.fr q (fun _ _ h => h)) v A' c' (hs.fr q (fun _ _ h => h)) hI' hsz hn hf hl
  have hlast := fun (w1 : World) (q : Nw w w1) => bkLast_any w1 F g l (h.fr q (fun _ _ h => h)) hl
  have hcop := fun (w1 : World) (S : Nat → Prop) (q : Fr S w w1) (hS : ∀ k, I' k → ¬ S k) => copied_any w1 I' v A' c' (hs.fr q hS) (by have := hsz.1; omega)
  have hFlt := h.lt
  obtain ⟨d, hd⟩ : ∃ d, decV l v = d := ⟨_, rfl⟩
  rw [hd] at hd0 hd1 hd2 hd3 ⊢
  generalize verOk v = b at hd0 hd1 hd2 hd3 hright
  generalize findV v.1 l = o at hd1 hd2 hd3 hof hput
  generalize lastAt l = la at hd2 hd3 hlast
  have D0 := Lib.hid hd0
  have D1 := Lib.hid hd1
  have D2 := Lib.hid hd2
  have D3 := Lib.hid hd3
  clear hd0 hd1 hd2 hd3 hd
  -- the box, and what is told
  have q0 : Nw w ((w.alloc (.cells #[I64 v.1.1, I64 v.1.2, .bool v.2.1, I64 v.2.2.1, .slice A' v.2.2.2.length c'] 38)).alloc (.cells zeroC 38)) := ((Fr.refl _ w).alloc _).alloc _
  have h' := h.fr q0 (fun _ _ h => h)
  have hB := (Blk.new w 38 #[I64 v.1.1, I64 v.1.2, .bool v.2.1, I64 v.2.2.1, .slice A' v.2.2.2.length c']).alloc (.cells zeroC 38)
  have hD : Blk ((w.alloc (.cells #[I64 v.1.1, I64 v.1.2, .bool v.2.1, I64 v.2.2.1, .slice A' v.2.2.2.length c'] 38)).alloc (.cells zeroC 38)) (w.heap.size + 1) 38 zeroC := by
    simpa using Blk.new (w.alloc (.cells #[I64 v.1.1, I64 v.1.2, .bool v.2.1, I64 v.2.2.1, .slice A' v.2.2.2.length c'] 38)) 38 zeroC
  go_enter Try.func15, Try.ntmps15
  go_wp2_with (go_at_call 37; refine (bkKnown_any _ _ _ _ h').mono ?_; rintro e w' ⟨rfl, rfl⟩)
  refine (hright _ q0 _ (by simp)).mono ?_
  rintro e w2 ⟨rfl, q2⟩
  have Q2 : Nw w w2 := q0.tr q2
  have hB2 := hB.fr q2 (fun h => h)
  have hD2 := hD.fr q2 (fun h => h)
  have hws : w.heap.size + 1 < w2.heap.size := hD2.lt
  have k0 : w2.cell? ⟨w.heap.size, 0, none⟩ = some (I64 v.1.1) := by simpa using hB2.cell 0
  have k1 : w2.cell? ⟨w.heap.size, 1, none⟩ = some (I64 v.1.2) := by simpa using hB2.cell 1
  clear hB hD h' q0 q2 hright
  cases b
  · have hE := hD2.row zeroC
    go_wp2_with (refine wpList_store_row rfl 38 _ _ rfl (w.heap.size + 1) _ rfl rfl 38 _ hD2 ver_size rfl zero_one ?_)
    refine bodyPost_ret (v := .tuple #[.agg zeroC, .int .i64 2]) ?_ rfl ?_
    · exact ret_zero _ (w.heap.size + 1) 2 _ _ rfl rfl rfl _ rfl hE
    have hw : Nw w (w2.setRow (w.heap.size + 1) zeroC) := Q2.setRow (.inr (by omega)) _
    rw [D0.out (by trivial)]
    exact ⟨none, 0, F, rfl, Nat.le_refl _, Nat.zero_le _, Sl.nil _ _ _, h.fr hw (fun _ _ h => h), hw.on, fun k hk => .inl hk⟩
  · go_wp2_with fail
    refine (hof w2 Q2).mono ?_
    rintro e w3 ⟨A3, c3, rfl, hl3, hm3, hs3, q3⟩
    obtain ⟨u, hu⟩ : ∃ u, o.getD verZero = u := ⟨_, rfl⟩
    obtain ⟨is, his⟩ : ∃ is, o.isSome = is := ⟨_, rfl⟩
    rw [hu] at hl3 hs3 ⊢
    rw [his]
    have HU := Lib.hid hu
    have HS := Lib.hid his
    clear hu his
    have hT := Blk.new w3 38 zeroC
    have h1T := ver_one u.1.1 u.1.2 u.2.1 u.2.2.1 (.slice A3 u.2.2.2.length c3) rfl
    have hT2 := hT.row #[I64 u.1.1, I64 u.1.2, .bool u.2.1, I64 u.2.2.1, .slice A3 u.2.2.2.length c3]
    have hw3 : w2.heap.size ≤ w3.heap.size := q3.size
    obtain ⟨w4, hw4⟩ : ∃ w4, w4 = (w3.alloc (.cells zeroC 38)).setRow w3.heap.size #[I64 u.1.1, I64 u.1.2, .bool u.2.1, I64 u.2.2.1, .slice A3 u.2.2.2.length c3] := ⟨_, rfl⟩
    have q34 : Fr (· = w3.heap.size) w3 w4 := by rw [hw4]; exact ((Fr.refl (· = w3.heap.size) w3).alloc _).setRow (.inl rfl) _
    have n34 : Nw w3 w4 := q34.mono fun k hk => .inr (by omega)
    have hB4 := (hB2.fr q3 (fun h => h)).fr n34 (fun h => h)
    have hD4 := (hD2.fr q3 (fun h => h)).fr n34 (fun h => h)
    rw [← hw4] at hT2
    have Q4 : Nw w w4 := (Q2.tr q3).tr n34
    have HW4 := Lib.hid hw4
    clear hw4 hB2 hD2 k0 k1
    cases is
    · have k0 : w4.cell? ⟨w.heap.size, 0, none⟩ = some (I64 v.1.1) := by simpa using hB4.cell 0
      have k3 : w4.cell? ⟨w.heap.size, 3, none⟩ = some (I64 v.2.2.1) := by simpa using hB4.cell 3
      go_wp2_with (refine wpList_store_row rfl 38 _ _ rfl w3.heap.size _ rfl rfl 38 _ hT ver_size rfl h1T ?_)
      rw [← HW4.out]
      have d3 := fun (n : Later w4) => n.cell k3
      refine wp_region_later (by kernel_rfl) (by kernel_rfl) ?_
      repeat (go_big_quiet_step ((go_at_call 43; exact Later.call (hlast _ (Q4.tr (Later.nw _))))))
      refine wpQuiet_later fun w5 q5 => ?_
      have Q5 : Nw w w5 := Q4.tr q5
      have hB5 := hB4.fr q5 (fun h => h)
      have hD5 := hD4.fr q5 (fun h => h)
      have hno : o = none := by
        have h1 := HS.out
        cases o with
        | none => rfl
        | some x => cases h1
      have HNO := Lib.hid hno
      have hw5 : w2.heap.size ≤ w5.heap.size := by have := n34.size; have := q5.size; omega
      clear d3 k0 k3 hno hT hT2 hB4 hD4 h1T
      by_cases hle : v.2.2.1 ≤ la
      · have hE := hD5.row zeroC
        go_wp2_with (refine wpList_store_row rfl 38 _ _ rfl (w.heap.size + 1) _ rfl rfl 38 _ hD5 ver_size rfl zero_one ?_)
        refine bodyPost_ret (v := .tuple #[.agg zeroC, .int .i64 2]) ?_ rfl ?_
        · exact ret_zero _ (w.heap.size + 1) 2 _ _ rfl rfl rfl _ rfl hE
        have hw : Nw w (w5.setRow (w.heap.size + 1) zeroC) := Q5.setRow (.inr (by omega)) _
        rw [D2.out (by trivial) HNO.out hle]
        exact ⟨none, 0, F, rfl, Nat.le_refl _, Nat.zero_le _, Sl.nil _ _ _, h.fr hw (fun _ _ h => h), hw.on, fun k hk => .inl hk⟩
      · have HLE := Lib.hid hle
        have hli : decide (v.2.2.1 ≤ la) = false := decide_eq_false hle
        clear hle
        have b0 : w5.drew.cell? ⟨w.heap.size, 0, none⟩ = some (I64 v.1.1) := by simpa using hB5.drew.cell 0
        have b1 : w5.drew.cell? ⟨w.heap.size, 1, none⟩ = some (I64 v.1.2) := by simpa using hB5.drew.cell 1
        have b2 : w5.drew.cell? ⟨w.heap.size, 2, none⟩ = some (.bool v.2.1) := by simpa using hB5.drew.cell 2
        have b3 : w5.drew.cell? ⟨w.heap.size, 3, none⟩ = some (I64 v.2.2.1) := by simpa using hB5.drew.cell 3
        have b4 : w5.drew.cell? ⟨w.heap.size, 4, none⟩ = some (.slice A' v.2.2.2.length c') := by simpa using hB5.drew.cell 4
        go_wp2_with fail
        refine wp_region_tail 4 (by kernel_rfl) (by kernel_rfl) ?_
        simp only [List.take_succ_cons, List.take_zero, List.drop_succ_cons, List.drop_zero]
        repeat still_step
        refine wpStill_nil ?_
        go_wp2_with fail
        refine (hput _ Q5.drew HNO.out).mono ?_
        rintro e w6 ⟨rfl, F6, hb6, f6, n6⟩
        have hbox : ∀ k, F k → k < w.heap.size := hFlt
        have hB6 := hB5.drew.fr f6 (fun hF => by have := hbox _ hF; omega)
        have hD6 := hD5.drew.fr f6 (fun hF => by have := hbox _ hF; omega)
        have f06 : Fr F w w6 := (Nw.on Q5.drew).tr f6
        have hw6 : w5.heap.size ≤ w6.heap.size := f6.size
        clear b0 b1 b2 b3 b4
        go_wp2_with (first | (refine wpList_load_row rfl 38 _ rfl w.heap.size rfl 38 _ (0, 0) _ hB6 Try.underlying38 rfl ver_size ?_) | (go_at_call 44; refine (hcop w6 F f06 hI').mono ?_; rintro e w7 ⟨A7, c7, rfl, hl7, hm7, hs7, q7⟩; have hD7 := hD6.fr q7 (fun h => h); have h17 := ver_one v.1.1 v.1.2 v.2.1 v.2.2.1 (.slice A7 v.2.2.2.length c7) rfl) | (refine wpList_store_row rfl 38 _ _ rfl (w.heap.size + 1) _ rfl rfl 38 _ hD7 ver_size rfl h17 ?_))
        have hE := hD7.row #[I64 v.1.1, I64 v.1.2, .bool v.2.1, I64 v.2.2.1, .slice A7 v.2.2.2.length c7]
        refine bodyPost_ret (v := .tuple #[VerV v A7 c7, .int .i64 0]) ?_ rfl ?_
        · exact ret_zero _ (w.heap.size + 1) 0 _ _ rfl rfl rfl _ rfl hE
        have q78 : Fr (· = w.heap.size + 1) w7 (w7.setRow (w.heap.size + 1) #[I64 v.1.1, I64 v.1.2, .bool v.2.1, I64 v.2.2.1, .slice A7 v.2.2.2.length c7]) := (Fr.refl (· = w.heap.size + 1) w7).setRow (.inl rfl) _
        have hn6 : ∀ k, F6 k → k ≠ w.heap.size + 1 := fun k hk => by
          have h5 : w5.drew.heap.size = w5.heap.size := rfl
          rcases n6 k hk with h1 | h1
          · have := hbox k h1; omega
          · omega
        rw [D3.out (by trivial) HNO.out HLE.out]
        refine ⟨A7, c7, F6, rfl, hl7, hm7, ?_, (hb6.fr q7 (fun _ _ h => h)).fr q78 (fun k hk => hn6 k hk), ((f06.tr (Nw.on q7))).trans q78 fun k hk => .inr (by omega), fun k hk => ?_⟩
        · refine (hs7.fr q78 fun k hk e => ?_).mono fun k hk _ => ⟨by omega, fun hF => ?_⟩
          · omega
          · have := hb6.lt k hF; omega
        · have h5 : w5.drew.heap.size = w5.heap.size := rfl
          exact (n6 k hk).imp id fun h => by omega
    · have hE := hD4.row #[I64 u.1.1, I64 u.1.2, .bool u.2.1, I64 u.2.2.1, .slice A3 u.2.2.2.length c3]
      go_wp2_with (first | (refine wpList_store_row rfl 38 _ _ rfl w3.heap.size _ rfl rfl 38 _ hT ver_size rfl h1T ?_; rw [← HW4.out]) | (refine wpList_load_row rfl 38 _ rfl w3.heap.size rfl 38 _ (0, 0) _ hT2 Try.underlying38 rfl ver_size ?_) | (refine wpList_store_row rfl 38 _ _ rfl (w.heap.size + 1) _ rfl rfl 38 _ hD4 ver_size rfl h1T ?_))
      refine bodyPost_ret (v := .tuple #[VerV u A3 c3, .int .i64 0]) ?_ rfl ?_
      · exact ret_zero _ (w.heap.size + 1) 0 _ _ rfl rfl rfl _ rfl hE
      have hou : o = some u := by
        have h1 := HS.out
        have h2 := HU.out
        cases o with
        | none => cases h1
        | some x => rw [← h2]; rfl
      have q45 : Fr (· = w.heap.size + 1) w4 (w4.setRow (w.heap.size + 1) #[I64 u.1.1, I64 u.1.2, .bool u.2.1, I64 u.2.2.1, .slice A3 u.2.2.2.length c3]) := (Fr.refl (· = w.heap.size + 1) w4).setRow (.inl rfl) _
      have hw : Nw w (w4.setRow (w.heap.size + 1) #[I64 u.1.1, I64 u.1.2, .bool u.2.1, I64 u.2.2.1, .slice A3 u.2.2.2.length c3]) := Q4.trans q45 fun k hk => .inr (by omega)
      rw [D1.out u (by trivial) hou]
      refine ⟨A3, c3, F, rfl, hl3, hm3, ?_, h.fr hw (fun _ _ h => h), hw.on, fun k hk => .inl hk⟩
      refine (((hs3.mono (F' := fun k => w2.heap.size ≤ k ∧ k < w3.heap.size) fun k h1 h2 => ⟨h1, h2⟩).fr q34 fun k hk e => ?_).fr q45 fun k hk e => ?_).mono fun k hk _ => ⟨by omega, fun hF => ?_⟩
      · omega
      · omega
      · have := hFlt k hF; omega
end Go.Proofs.Ytgmcjfjdjnoljaa
