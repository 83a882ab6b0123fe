/- Rulings: the program reads a book. -/
import Derived.Test.YtgmcjfjdjnoljaaRuL
import Derived.Test.YtgmcjfjdjnoljaaRulB
import Derived.WalkArith
namespace Go.Proofs.Ytgmcjfjdjnoljaa
open Go Go.RowKit

theorem rdgOk_sz {r : Rdg} (h : rdgOk r = true) : r.1.length ≤ 1000000000000 ∧ r.2.2.length ≤ 1000000000000 := by
  have := rdgOk_len h
  omega
theorem verOk_sz {v : Ver} (h : verOk v = true) : VerSz v := by
  obtain ⟨_, _, h6, _, hr⟩ := verOk_parts h
  exact ⟨by omega, fun r hr2 => rdgOk_sz (hr r hr2)⟩
theorem bookOk_sz {l : List Ver} (h : BookOk l) : VersSz l := fun v hv => verOk_sz (h.1 v hv)
theorem wf_small (n : Int) (h : 0 ≤ n ∧ n ≤ 1073741824) : (Lit.int .i64 n).wf = true := WalkArith.wf_i64 (by omega)
theorem bkN_left {k : Nat} {s st : Rd} {l : List Ver} (h : bkN k (some ([], s)) = some (l, st)) : rdLeft st ≤ rdLeft s := by
  induction k generalizing l st with
  | zero =>
    injection h with h; injection h with h1 h2
    subst h2; exact Nat.le_refl _
  | succ k ih =>
    obtain ⟨m, u, h0, _, _, _, _, rfl⟩ := bkStep_inv h
    exact Nat.le_trans (rdVer_left u) (ih h0)
theorem rdVer_wf (s : Rd) : NmWf (rdVer s).1.1 := ⟨wf_small _ (rdNum_most _ _ (by omega)), wf_small _ (rdNum_most _ _ (by omega))⟩
theorem rdRow_len (m : Int) (hm : 0 ≤ m) (s : Rd) : ((rdRow m s).1.length : Int) ≤ m := by
  rcases rdNum_cases m s with h | ⟨bs, n, r, _, h, _, h2, _⟩
  · rw [rdRow_none h]; simpa using hm
  · rw [rdRow_some h]
    split
    · simpa using hm
    · simp; omega
theorem rdVer_sz (s : Rd) : VerSz (rdVer s).1 := by
  refine ⟨?_, ?_⟩
  · show (rdRdgs _ _).1.length ≤ _
    rw [rdRdgs_len]
    have := rdNum_most 6 (rdFlag (rdNum 1073741824 (rdNum 1073741824 (rdNum 1073741824 s).2).2).2).2 (by omega)
    have e : (rdVerN s).1.2.2.2.2 = (rdNum 6 (rdFlag (rdNum 1073741824 (rdNum 1073741824 (rdNum 1073741824 s).2).2).2).2).1 := rfl
    rw [e]
    omega
  · show RdgSz (rdRdgs _ _).1
    generalize (rdVerN s).1.2.2.2.2.toNat = k
    generalize (rdVerN s).2 = t
    induction k with
    | zero => intro r hr; cases hr
    | succ k ih =>
      intro r hr
      rcases List.mem_append.1 hr with h | h
      · exact ih r h
      · rw [List.mem_singleton.1 h]
        have h1 := rdRow_len 20 (by omega) (rdRdgs k t).2
        have h2 := rdRow_len 20 (by omega) (rdFlag (rdRow 20 (rdRdgs k t).2).2).2
        exact ⟨by show (rdRow 20 _).1.length ≤ _; omega, by show (rdRow 20 _).1.length ≤ _; omega⟩

set_option maxRecDepth 100000 in
theorem failed_any (w : World) (F : Nat → Prop) (gr gb : Nat) (s : Rd) (h : IsRd w F gr s) (hb : w.cell? ⟨gb, 0, none⟩ = some (.pointer (some ⟨gr, 0, none⟩))) :
    Calls Try.prog 60 #[.pointer (some ⟨gb, 0, none⟩)] w fun e w' => e = .returned (.bool (decide (s = none))) ∧ w = w' := by
  cases s with
  | none =>
    go_enter Try.func60, Try.ntmps60
    go_wp2_with (first | (go_at_call 35; refine (rdleft_any _ _ _ _ h).mono ?_; rintro e w' ⟨rfl, rfl⟩) | (go_at_call 61; refine (rdend_any _ _ _ _ h).mono ?_; rintro e w' ⟨rfl, rfl⟩))
    go_ret
    exact ⟨rfl, rfl⟩
  | some bs =>
    by_cases h0 : bs = []
    · subst h0
      go_enter Try.func60, Try.ntmps60
      go_wp2_with (first | (go_at_call 35; refine (rdleft_any _ _ _ _ h).mono ?_; rintro e w' ⟨rfl, rfl⟩) | (go_at_call 61; refine (rdend_any _ _ _ _ h).mono ?_; rintro e w' ⟨rfl, rfl⟩))
      go_ret
      exact ⟨rfl, rfl⟩
    · have h1 : 1 ≤ bs.length := List.length_pos_iff.2 h0
      have hl := rdleft_any _ _ _ _ h
      have e : rdLeft (some bs) = bs.length := rfl
      rw [e] at hl
      generalize bs.length = n at h1 hl
      have h2 : ¬ (n : Int) = 0 := by omega
      have h3 : ¬ n = 0 := by omega
      go_enter Try.func60, Try.ntmps60
      go_wp2_with (go_at_call 35; refine hl.mono ?_; rintro e w' ⟨rfl, rfl⟩)
      go_ret
      exact ⟨rfl, rfl⟩
/-- What reading a book tells and leaves. -/
def BkReadTo (w : World) (F : Nat → Prop) (gr : Nat) (res : Option (List Ver × Rd)) (e : Ending) (w' : World) : Prop :=
  Fr (· = gr) w w' ∧ match res with
    | none => e = .returned (.tuple #[.pointer none, .bool false])
    | some (l, t) => ∃ g FB, e = .returned (.tuple #[.pointer (some ⟨g, 0, none⟩), .bool true]) ∧ IsBk w' FB g l ∧ IsRd w' F gr t ∧ ∀ k, FB k → w.heap.size ≤ k
def BkRel (w : World) (F : Nat → Prop) (gr g n : Nat) (s1 : Rd) (i : Value) (wr : World) : Prop :=
  ∃ k : Nat, k ≤ n ∧ i = .int .i64 k ∧ ∃ l st FB, bkN k (some ([], s1)) = some (l, st) ∧ IsBk wr FB g l ∧ (∀ j, FB j → w.heap.size < j) ∧ IsRd wr F gr st ∧ Blk wr w.heap.size 69 #[.pointer (some ⟨gr, 0, none⟩)] ∧ Fr (· = gr) w wr
set_option maxRecDepth 100000 in
set_option maxHeartbeats 4000000 in
theorem bkRead_any (w : World) (F : Nat → Prop) (gr : Nat) (s : Rd) (h : IsRd w F gr s) (hsz : rdLeft s ≤ 1000000000000) :
    Calls Try.prog 33 #[.pointer (some ⟨gr, 0, none⟩)] w fun e w' => BkReadTo w F gr (rdBook s) e w' := by
  have hgr := h.lt
  have hF := h.out.2
  have hbk : rdBook s = match bkN (rdNum 1073741824 s).1.toNat (some ([], (rdNum 1073741824 s).2)) with
    | none => none
    | some (l, t) => if t = none then none else some (l, t) := rfl
  have hnm := rdNum_most 1073741824 s (by omega)
  have hl1 := Nat.le_trans (rdNum_left 1073741824 s) hsz
  have n1 := fun w1 h1 => rdnumber_any w1 F gr s h1 1073741824
  generalize rdBook s = res at hbk ⊢
  generalize rdNum 1073741824 s = q at hbk hnm hl1 n1
  obtain ⟨n, s1⟩ := q
  simp only at hbk hnm hl1 n1
  obtain ⟨n, rfl⟩ : ∃ k : Nat, n = (k : Int) := ⟨n.toNat, by omega⟩
  have hn : n ≤ 1073741824 := by omega
  simp only [Int.toNat_natCast] at hbk
  have HB := Lib.hid hbk
  have N1 := Lib.hid n1
  clear hbk hnm n1
  have q0 : Nw w (w.alloc (.cells #[.pointer (some ⟨gr, 0, none⟩)] 69)) := (Fr.refl _ w).alloc _
  have hX := Blk.new w 69 #[.pointer (some ⟨gr, 0, none⟩)]
  go_enter Try.func33, Try.ntmps33
  go_wp2_with fail
  refine (bkNew_any _).mono ?_
  rintro e w1 ⟨g, FB, rfl, hb1, q1, hFB⟩
  have h1 := (h.fr q0 (fun h => h) (fun _ _ h => h)).fr q1 (fun h => h) (fun _ _ h => h)
  have hX1 := hX.fr q1 (fun h => h)
  have x1 : w1.cell? ⟨w.heap.size, 0, none⟩ = some (.pointer (some ⟨gr, 0, none⟩)) := by simpa using hX1.cell 0
  go_wp2_with fail
  refine (N1.out _ h1).mono ?_
  rintro e w2 ⟨rfl, h2⟩
  have hb2 := hb1.fr h2.2 (fun k hk e => by have := hFB k hk; simp at this; omega)
  have hX2 := hX1.fr h2.2 (by omega)
  have f2 : Fr (· = gr) w w2 := (Nw.on (q0.tr q1)).tr h2.2
  have hFB2 : ∀ j, FB j → w.heap.size < j := fun k hk => by have := hFB k hk; simp at this; omega
  have i2 := h2.1
  clear x1 h1 hb1 hX1 hX hFB q0 q1 h2
  go_wp2_with fail
  go_loopw [15] (fun i wx => BkRel w F gr g n s1 i wx) (fun i _ => n - (intOf i).toNat)
  case atStart => exact ⟨0, Nat.zero_le _, rfl, [], s1, FB, rfl, hb2, hFB2, i2, hX2, f2⟩
  case round =>
    clear hb2 hX2 f2 hFB2 i2
    obtain ⟨k, hk, rfl, l, st, FB, hN, hb, hFB, hr, hX, hf⟩ := hrel
    have hnone : bkN k (some ([], s1)) = some (l, st) := hN
    obtain ⟨hok, hlk⟩ := bkN_ok hN
    have hz := bookOk_sz hok
    have x1 : wr.cell? ⟨w.heap.size, 0, none⟩ = some (.pointer (some ⟨gr, 0, none⟩)) := by simpa using hX.cell 0
    by_cases hlt : k < n
    · have hls : rdLeft st ≤ 1000000000000 := Nat.le_trans (bkN_left hN) hl1
      have hone := one_any wr F gr st hr hls
      have hwf := rdVer_wf st
      have hvz := rdVer_sz st
      have hyes := @bkStep_yes l st
      have hno := @bkStep_no l st
      generalize rdVer st = q at hone hwf hvz hyes hno
      obtain ⟨v, st'⟩ := q
      simp only at hone hwf hvz hyes hno
      have HY := Lib.hid hyes
      have HNo := Lib.hid hno
      have HN := Lib.hid hN
      have HOK := Lib.hid hok
      clear hyes hno hN hnone hok hls
      have hws : w.heap.size < wr.heap.size := hX.lt
      go_wp2_with fail
      refine hone.mono ?_
      rintro e w1 ⟨A1, c1, rfl, hl1', hm1, hs1, hr1⟩
      have hb1 := hb.fr hr1.2 (fun j hj e => by have := hFB j hj; omega)
      have hX1 := hX.fr hr1.2 (by omega)
      have f1 := hf.tr hr1.2
      have i1 := hr1.1
      have hbl := hb.lt
      have hw1 : wr.heap.size ≤ w1.heap.size := hr1.2.size
      -- the variable
      have hT := Blk.new w1 38 zeroC
      have h1T := ver_one v.1.1 v.1.2 v.2.1 v.2.2.1 (.slice A1 v.2.2.2.length c1) rfl
      have hT2 := hT.row #[I64 v.1.1, I64 v.1.2, .bool v.2.1, I64 v.2.2.1, .slice A1 v.2.2.2.length c1]
      obtain ⟨w2, hw2⟩ : ∃ w2, w2 = (w1.alloc (.cells zeroC 38)).setRow w1.heap.size #[I64 v.1.1, I64 v.1.2, .bool v.2.1, I64 v.2.2.1, .slice A1 v.2.2.2.length c1] := ⟨_, rfl⟩
      have q12 : Nw w1 w2 := by rw [hw2]; exact ((Fr.refl (fun _ => False) w1).alloc _).setRow (.inr (Nat.le_refl _)) _
      rw [← hw2] at hT2
      have HW2 := Lib.hid hw2
      have y0 : w2.cell? ⟨w1.heap.size, 0, none⟩ = some (I64 v.1.1) := by simpa using hT2.cell 0
      have y1 : w2.cell? ⟨w1.heap.size, 1, none⟩ = some (I64 v.1.2) := by simpa using hT2.cell 1
      have hs2 := (hs1.mono (F' := fun j => wr.heap.size ≤ j ∧ j < w1.heap.size) fun j h1 h2 => ⟨h1, h2⟩).fr (S := (· = w1.heap.size)) (by rw [hw2]; exact ((Fr.refl (· = w1.heap.size) w1).alloc _).setRow (.inl rfl) _ : Fr (· = w1.heap.size) w1 w2) (fun j hj e => by omega)
      clear hw2 hr1 x1
      go_wp2_with (refine wpList_store_row rfl 38 _ _ rfl w1.heap.size _ rfl rfl 38 _ hT ver_size rfl h1T ?_; rw [← HW2.out])
      have hb2 := hb1.fr q12 (fun _ _ h => h)
      refine (bkOf_any w2 FB g l hb2 v.1 hwf hz (by omega)).mono ?_
      rintro e w3 ⟨A3, c3, rfl, hl3, hm3, _, q3⟩
      obtain ⟨o, hfo⟩ : ∃ o, findV v.1 l = o := ⟨_, rfl⟩
      rw [hfo] at hl3 ⊢
      obtain ⟨u, hu⟩ : ∃ u, o.getD verZero = u := ⟨_, rfl⟩
      obtain ⟨is, his⟩ : ∃ is, o.isSome = is := ⟨_, rfl⟩
      rw [hu] at hl3 ⊢
      rw [his]
      have HFO := Lib.hid hfo
      have HU := Lib.hid hu
      have HIS := Lib.hid his
      clear hu his hfo
      have hV := Blk.new w3 38 zeroC
      have h1V := ver_one u.1.1 u.1.2 u.2.1 u.2.2.1 (.slice A3 u.2.2.2.length c3) rfl
      obtain ⟨w4, hw4⟩ : ∃ w4, w4 = (w3.alloc (.cells zeroC 38)).setRow w3.heap.size #[I64 u.1.1, I64 u.1.2, .bool u.2.1, I64 u.2.2.1, .slice A3 u.2.2.2.length c3] := ⟨_, rfl⟩
      have q34 : Nw w3 w4 := by rw [hw4]; exact ((Fr.refl (fun _ => False) w3).alloc _).setRow (.inr (Nat.le_refl _)) _
      have HW4 := Lib.hid hw4
      clear hw4
      have q24 : Nw w2 w4 := q3.tr q34
      have q14 : Nw w1 w4 := q12.tr q24
      have hb4 := hb2.fr q24 (fun _ _ h => h)
      have hs4 := hs2.fr q24 (fun _ _ h => h)
      have hT4 := hT2.fr q24 (fun h => h)
      have hX4 := hX1.fr q14 (fun h => h)
      have i4 := i1.fr q14 (fun h => h) (fun _ _ h => h)
      have f4 := f1.tr (Nw.on q14)
      have x4 : w4.cell? ⟨w.heap.size, 0, none⟩ = some (.pointer (some ⟨gr, 0, none⟩)) := by simpa using hX4.cell 0
      have hfail := failed_any w4 F gr w.heap.size st' i4 x4
      have bad : (¬ (findV v.1 l = none ∧ st' ≠ none ∧ (decV l v).2.1 = 0)) → res = none := fun hh => by
        have e1 : bkN (k + 1) (some ([], s1)) = none := by
          show bkStep (bkN k (some ([], s1))) = none
          rw [HN.out]
          exact HNo.out hh
        rw [HB.out, bkN_none e1 hlt]
      have BAD := Lib.hid bad
      clear bad y0 y1 hT hT2
      cases is
      · have hon : findV v.1 l = none := by
          rw [HFO.out]
          have h1 := HIS.out
          cases o with
          | none => rfl
          | some x => cases h1
        have HON := Lib.hid hon
        clear hon
        cases st' with
        | none =>
          go_wp2_with (first | (refine wpList_store_row rfl 38 _ _ rfl w3.heap.size _ rfl rfl 38 _ hV ver_size rfl h1V ?_; rw [← HW4.out]) | (go_at_call 60; refine hfail.mono ?_; rintro e w' ⟨rfl, rfl⟩))
          go_ret2
          rw [BAD.out (fun hh => hh.2.1 rfl)]
          exact ⟨f4, rfl⟩
        | some bs =>
          obtain ⟨d, hd⟩ : ∃ d, decV l v = d := ⟨_, rfl⟩
          have hdec := bkDecide_any w4 FB _ g l hb4 v A1 c1 hs4 (fun j hj hF => by have := hbl j hF; omega) hl1' hm1 hvz hz hwf (by omega)
          rw [hd] at hdec
          have HD := Lib.hid hd
          clear hd
          go_wp2_with (first | (refine wpList_store_row rfl 38 _ _ rfl w3.heap.size _ rfl rfl 38 _ hV ver_size rfl h1V ?_; rw [← HW4.out]) | (go_at_call 60; refine hfail.mono ?_; rintro e w' ⟨rfl, rfl⟩) | (refine wpList_load_row rfl 38 _ rfl w1.heap.size rfl 38 _ (0, 0) _ hT4 Try.underlying38 rfl ver_size ?_))
          refine hdec.mono ?_
          rintro e w5 ⟨A5, c5, F5, rfl, hl5, hm5, _, hb5, f5, n5⟩
          have hD := Blk.new w5 38 zeroC
          have h1D := ver_one d.1.1.1 d.1.1.2 d.1.2.1 d.1.2.2.1 (.slice A5 d.1.2.2.2.length c5) rfl
          obtain ⟨w6, hw6⟩ : ∃ w6, w6 = (w5.alloc (.cells zeroC 38)).setRow w5.heap.size #[I64 d.1.1.1, I64 d.1.1.2, .bool d.1.2.1, I64 d.1.2.2.1, .slice A5 d.1.2.2.2.length c5] := ⟨_, rfl⟩
          have q56 : Nw w5 w6 := by rw [hw6]; exact ((Fr.refl (fun _ => False) w5).alloc _).setRow (.inr (Nat.le_refl _)) _
          have HW6 := Lib.hid hw6
          clear hw6
          have h4s := q14.size
          have f6 : Fr (· = gr) w w6 := (f4.trans f5 fun j hj => .inr (by have := hFB j hj; omega)).tr (Nw.on q56)
          by_cases he : d.2.1 = 0
          · have HE := Lib.hid he
            go_wp2_with (refine wpList_store_row rfl 38 _ _ rfl w5.heap.size _ rfl rfl 38 _ hD ver_size rfl h1D ?_; rw [← HW6.out])
            go_roundw
            case rel =>
              refine ⟨k + 1, by omega, by go_num, d.2.2, some bs, F5, ?_, hb5.fr q56 (fun _ _ h => h), fun j hj => ?_, (i4.fr f5 (fun hf2 => ?_) (fun j hj hf2 => ?_)).fr q56 (fun h => h) (fun _ _ h => h), (hX4.fr f5 (fun hf2 => ?_)).fr q56 (fun h => h), f6⟩
              · show bkStep (bkN k (some ([], s1))) = _
                rw [HN.out, HY.out HON.out (by simp) (by rw [HD.out]; exact HE.out), HD.out]
              · rcases n5 j hj with h1 | h1
                · exact hFB j h1
                · omega
              · have := hFB _ hf2; omega
              · have := hFB _ hf2; have := hF j hj; omega
              · have := hFB _ hf2; omega
            case measure => simp [intOf]; omega
          · have HE := Lib.hid he
            go_wp2_with (refine wpList_store_row rfl 38 _ _ rfl w5.heap.size _ rfl rfl 38 _ hD ver_size rfl h1D ?_; rw [← HW6.out])
            go_ret2
            rw [BAD.out (fun hh => HE.out (by rw [← HD.out]; exact hh.2.2))]
            exact ⟨f6, rfl⟩
      · go_wp2_with (refine wpList_store_row rfl 38 _ _ rfl w3.heap.size _ rfl rfl 38 _ hV ver_size rfl h1V ?_; rw [← HW4.out])
        go_ret2
        have hon : findV v.1 l ≠ none := by
          rw [HFO.out]
          have h1 := HIS.out
          cases o with
          | none => cases h1
          | some x => simp
        rw [BAD.out (fun hh => hon hh.1)]
        exact ⟨f4, rfl⟩
    · have hkn : k = n := by omega
      subst hkn
      have HB2 : res = if st = none then none else some (l, st) := by rw [HB.out, hN]
      have HB3 := Lib.hid HB2
      have hfail := failed_any wr F gr w.heap.size st hr x1
      clear HB2 hN hnone
      cases st with
      | none =>
        go_wp2_with (go_at_call 60; refine hfail.mono ?_; rintro e w' ⟨rfl, rfl⟩)
        go_ret2
        rw [HB3.out]
        exact ⟨hf, rfl⟩
      | some bs =>
        go_wp2_with (go_at_call 60; refine hfail.mono ?_; rintro e w' ⟨rfl, rfl⟩)
        go_ret2
        rw [HB3.out]
        exact ⟨hf, g, FB, rfl, hb, hr, fun j hj => Nat.le_of_lt (hFB j hj)⟩
end Go.Proofs.Ytgmcjfjdjnoljaa
