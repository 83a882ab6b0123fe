/- WireWrites: the walk. -/
import Derived.Test.YtoapobgnfgfobaaL02W
namespace Go.Proofs.Ytoapobgnfgfobaa
open Go Go.RowKit

def szT (n : Nat) (ts : List ByteArray) : Nat := n + rowsLen (ts.map (·.data.toList))
def szR (n : Nat) (rs : List (List UInt8)) : Nat := n + rowsLen rs
theorem rowsLen_succ (rs : List (List UInt8)) (k : Nat) (h : k < rs.length) : rowsLen (rs.take (k + 1)) = rowsLen (rs.take k) + rs[k].length := by
  unfold rowsLen
  rw [List.take_succ_eq_append_getElem h, List.map_append, List.sum_append]
  simp
theorem szT_succ (n : Nat) (ts : List ByteArray) (k : Nat) (h : k < ts.length) : szT n (ts.take (k + 1)) = szT n (ts.take k) + ts[k].size := by
  unfold szT
  rw [List.map_take, List.map_take, rowsLen_succ _ k (by simpa using h)]
  have : (ts.map (·.data.toList))[k]'(by simpa using h) = ts[k].data.toList := by simp
  rw [this, bytes_size]
  omega
theorem szR_succ (n : Nat) (rs : List (List UInt8)) (k : Nat) (h : k < rs.length) : szR n (rs.take (k + 1)) = szR n (rs.take k) + rs[k].length := by
  unfold szR
  rw [rowsLen_succ _ _ h]
  omega
def CntT (n0 : Nat) (ts : List ByteArray) (n i : Value) : Prop := ∃ k : Nat, k ≤ ts.length ∧ i = .int .i64 k ∧ n = .int .i64 (szT n0 (ts.take k) : Nat) ∧ szT n0 (ts.take k) ≤ 1000000000000000
def CntR (n0 : Nat) (rs : List (List UInt8)) (n i : Value) : Prop := ∃ k : Nat, k ≤ rs.length ∧ i = .int .i64 k ∧ n = .int .i64 (szR n0 (rs.take k) : Nat) ∧ szR n0 (rs.take k) ≤ 1000000000000000

set_option maxRecDepth 100000 in
set_option maxHeartbeats 4000000 in
theorem writes_walk (w : World) (A0 A1 A2 A3 : Option Addr) (c0 c1 c2 c3 : Nat) (ns : List Int) (fs : List Bool) (ts : List ByteArray) (rs : List (List UInt8)) (vs : List Value)
    (S0 : Sl w (· < w.heap.size) A0 (ns.map I64)) (S1 : Sl w (· < w.heap.size) A1 (fs.map Value.bool)) (S2 : Sl w (· < w.heap.size) A2 (ts.map Value.string)) (S3 : Sl w (· < w.heap.size) A3 vs) (R3 : RowsV w (· < w.heap.size) vs rs)
    (hl0 : ns.length ≤ 140737488351232) (hl1 : fs.length ≤ 140737488351232) (hl2 : ts.length ≤ 140737488351232) (hl3 : rs.length ≤ 140737488351232) (hE2 : ∀ t ∈ ts, t.size ≤ 140737488351232) (hE3 : ∀ r ∈ rs, r.length ≤ 140737488351232) :
    Calls Try.prog 6 #[.slice A0 ns.length c0, .slice A1 fs.length c1, .slice A2 ts.length c2, .slice A3 rs.length c3] w fun e w' => e = .returned (.bool true) ∧ Nw w w' := by
  obtain ⟨n0, hn0⟩ : ∃ n0, ns.length + fs.length + ts.length + rs.length = n0 := ⟨_, rfl⟩
  have hn0' : (ns.length : Int) + (fs.length : Int) + (ts.length : Int) + (rs.length : Int) = (n0 : Int) := by omega
  have hn0le : n0 ≤ 600000000000000 := by omega
  have H0 := Lib.hid hn0
  have H0' := Lib.hid hn0'
  clear hn0 hn0'
  have HE2 := Lib.hid hE2
  have HE3 := Lib.hid hE3
  clear hE2 hE3
  go_enter Try.func6, Try.ntmps6
  go_wp2_with fail
  rw [H0'.out]
  go_loop [9, 10] (fun n i => CntT n0 ts n i) (fun _ i => ts.length - (intOf i).toNat)
  case atStart => exact ⟨0, Nat.zero_le _, rfl, by simp [szT, rowsLen], by simp [szT, rowsLen]; omega⟩
  case round =>
    obtain ⟨k, hk, rfl, rfl, hs⟩ := hrel
    by_cases hgt : 20000 < szT n0 (ts.take k)
    · have hd : decide (((szT n0 (ts.take k) : Nat) : Int) ≤ 20000) = false := decide_eq_false (by omega)
      have hgt' : (20000 : Int) < ((szT n0 (ts.take k) : Nat) : Int) := by omega
      by_cases hlt : k < ts.length
      all_goals
        by_cases hr0 : 0 < rs.length
        all_goals
          go_wp2_with fail
          refine wp_loop_rounds 1 ?_
          rw [rounds_succ]
          go_wp2_with fail
          refine (awake02 _).mono ?_
          rintro e w1 ⟨rfl, q1⟩
          go_wp2_with fail
          go_ret
          exact ⟨rfl, q1⟩
    · by_cases hlt : k < ts.length
      · obtain ⟨b, o, rfl, _, hc⟩ := S2.get hlt
        have hsm := HE2.out _ (List.getElem_mem hlt)
        have hsucc := szT_succ n0 ts k hlt
        generalize szT n0 (ts.take k) = m at hs hgt hsucc
        have HS := Lib.hid hsucc
        clear hsucc
        have hle : (m : Int) ≤ 20000 := by omega
        go_wp2_with fail
        go_round
        case rel => exact ⟨k + 1, by omega, by go_num, by rw [HS.out]; go_num, by rw [HS.out]; omega⟩
        case measure => simp [intOf]; omega
      · obtain rfl : k = ts.length := by omega
        rw [List.take_of_length_le (Nat.le_refl _)] at hgt hs ⊢
        have hdef : szT n0 ts = n0 + rowsLen (ts.map (·.data.toList)) := rfl
        obtain ⟨m1, hm1⟩ : ∃ m1, szT n0 ts = m1 := ⟨_, rfl⟩
        rw [hm1] at hgt hs hdef ⊢
        have HD1 := Lib.hid hdef
        clear hm1 hdef
        have hle1 : (m1 : Int) ≤ 20000 := by omega
        go_wp2_with fail
        go_loop [9, 11] (fun n i => CntR m1 rs n i) (fun _ i => rs.length - (intOf i).toNat)
        case atStart => exact ⟨0, Nat.zero_le _, rfl, by simp [szR, rowsLen], by simp [szR, rowsLen]; omega⟩
        case round =>
          obtain ⟨k, hk, rfl, rfl, hs⟩ := hrel
          by_cases hgt2 : 20000 < szR m1 (rs.take k)
          · have hd : decide (((szR m1 (rs.take k) : Nat) : Int) ≤ 20000) = false := decide_eq_false (by omega)
            have hgt' : (20000 : Int) < ((szR m1 (rs.take k) : Nat) : Int) := by omega
            by_cases hlt2 : k < rs.length
            all_goals
              go_wp2_with fail
              refine (awake02 _).mono ?_
              rintro e w1 ⟨rfl, q1⟩
              go_wp2_with fail
              go_ret
              exact ⟨rfl, q1⟩
          · by_cases hlt2 : k < rs.length
            · obtain ⟨v, hv, A6, c6, rfl, hn2, hm2, hs2⟩ := R3.2 k hlt2
              obtain ⟨b, o, rfl, _, _, hcs⟩ := S3.at_ (by rintro rfl; simp at hv)
              have hc := hcs k _ hv
              clear hcs hv
              have hsm := HE3.out _ (List.getElem_mem hlt2)
              have hsucc := szR_succ m1 rs k hlt2
              generalize szR m1 (rs.take k) = m at hs hgt2 hsucc
              have HS := Lib.hid hsucc
              clear hsucc
              have hle : (m : Int) ≤ 20000 := by omega
              go_wp2_with fail
              go_round
              case rel => exact ⟨k + 1, by omega, by go_num, by rw [HS.out]; go_num, by rw [HS.out]; omega⟩
              case measure => simp [intOf]; omega
            · obtain rfl : k = rs.length := by omega
              rw [List.take_of_length_le (Nat.le_refl _)] at hgt2 hs ⊢
              have hdef : szR m1 rs = m1 + rowsLen rs := rfl
              obtain ⟨m2, hm2⟩ : ∃ m2, szR m1 rs = m2 := ⟨_, rfl⟩
              rw [hm2] at hgt2 hs hdef ⊢
              have hle2 : (m2 : Int) ≤ 20000 := by omega
              have hb : ns.length + fs.length + ts.length + rs.length + rowsLen (ts.map (·.data.toList)) + rowsLen rs ≤ 20000 := by have := H0.out; have := HD1.out; omega
              have hN : ∀ r ∈ rs, r.length ≤ 1000000000000 := fun r hr => by have := HE3.out r hr; obtain ⟨i, hi, rfl⟩ := List.mem_iff_getElem.1 hr; have := rowsLen_get rs i hi; omega
              have hol := outAll_len ns fs ts rs
              clear hdef hm2
              go_wp2_with fail
              refine (lent_rows _ _ _ _ vs rs S3 R3 (by omega) hN).mono ?_
              rintro e w1 ⟨gs, B, cB, rfl, hL, q1, hB, hgs⟩
              have hs4 : outAll ns fs ts rs = wrRows rs (wrRows (ts.map (·.data.toList)) (wrFlags fs (wrNums ns ⟨true, []⟩))) := rfl
              have hL1 := wrNums_len ns ⟨true, []⟩
              simp only [List.length_nil] at hL1
              obtain ⟨s1, hs1⟩ : ∃ s1, wrNums ns ⟨true, []⟩ = s1 := ⟨_, rfl⟩
              rw [hs1] at hs4 hL1
              have hL2 := wrFlags_len fs s1
              obtain ⟨s2, hs2⟩ : ∃ s2, wrFlags fs s1 = s2 := ⟨_, rfl⟩
              rw [hs2] at hs4 hL2
              have hL3 := wrRows_len (ts.map (·.data.toList)) s2
              rw [List.length_map] at hL3
              obtain ⟨s3, hs3⟩ : ∃ s3, wrRows (ts.map (·.data.toList)) s2 = s3 := ⟨_, rfl⟩
              rw [hs3] at hs4 hL3
              obtain ⟨s4, hs4'⟩ : ∃ s4, outAll ns fs ts rs = s4 := ⟨_, rfl⟩
              rw [hs4'] at hs4 hol
              have hwl := wOut_len s4
              obtain ⟨O, hO⟩ : ∃ O, (wOut s4).1 = O := ⟨_, rfl⟩
              obtain ⟨E, hE⟩ : ∃ E, (wOut s4).2 = E := ⟨_, rfl⟩
              have hdone := fun (W : World) (F : Nat → Prop) (g : Nat) (h : IsWr W F g s4) => done_any W F g s4 h (by omega)
              have hrw := fun (W : World) (a : Sl W (· < w.heap.size) A0 (ns.map I64)) (b : Sl W (· < w.heap.size) A1 (fs.map Value.bool)) (d : Sl W (· < w.heap.size) A2 (ts.map Value.string)) (e : Sl W (· < w.heap.size) A3 vs) (f : RowsV W (· < w.heap.size) vs rs) =>
                (rwrite_any W _ _ _ _ A0 A1 A2 A3 c0 c1 c2 c3 ns fs ts rs vs a b d e f (by omega) (by omega) (by omega) (by omega)).mono fun e w' h => refTo_out h
              rw [hO, hE] at hdone
              rw [hs4', hO, hE] at hrw
              rw [hO] at hwl
              have hO2 : O.length ≤ 1000000 := by omega
              have HDN := Lib.hid hdone
              have HRW := Lib.hid hrw
              have HX1 := Lib.hid hs1
              have HX2 := Lib.hid hs2
              have HX3 := Lib.hid hs3
              have HX4 := Lib.hid hs4
              have B1 : s1.bs.length ≤ 800000000000 := by omega
              have B2 : s2.bs.length ≤ 800000000000 := by omega
              have B3 : s2.bs.length + 9 * ts.length + rowsLen (ts.map (·.data.toList)) ≤ 800000000000 := by omega
              have B4 : s3.bs.length + 9 * rs.length + rowsLen rs ≤ 800000000000 := by omega
              clear hdone hrw hO hE hs1 hs2 hs3 hs4 hs4' hL1 hL2 hL3 hol hwl
              go_wp2_with fail
              refine (newWriter_any _).mono ?_
              rintro e w2 ⟨rfl, i2, q2⟩
              have hw1 := q1.size
              obtain ⟨g, hg⟩ : ∃ g, w1.heap.size = g := ⟨_, rfl⟩
              rw [hg] at i2 hw1 ⊢
              have hgb := i2.bound g rfl
              have hLl := hL.lt
              rw [hg] at hLl
              have q3 := q1.tr q2
              have hL2 := hL.fr q2 (fun _ _ h => h) (fun _ _ h => h)
              clear hg hL q1 q2
              go_wp2_with fail
              refine (numbers_any w2 (· = g) (· < w.heap.size) g _ i2 A0 c0 ns (S0.fr q3 (fun _ _ h => h)) (fun k (hk : k < w.heap.size) => ⟨by omega, by omega⟩) (by omega) (by decide)).mono ?_
              rintro e w3 ⟨rfl, F3, i3, f3, n3⟩
              rw [HX1.out] at i3
              have g3 : ∀ k, F3 k → g ≤ k := fun k hk => (n3 k hk).elim (fun h => by omega) (fun h => by omega)
              have q4 : Nw w w3 := q3.new f3 (fun k h => by omega)
              have hL3 := hL2.fr f3 (fun k hk e => by have := hLl k (.inl hk); omega) (fun k hk e => by have := hLl k (.inr hk); omega)
              have z3 := q4.size
              clear i2 f3 n3 q3 hL2
              go_wp2_with fail
              refine (flags_any w3 F3 (· < w.heap.size) g _ i3 A1 c1 fs (S1.fr q4 (fun _ _ h => h)) (fun k (hk : k < w.heap.size) => ⟨by omega, fun h => by have := g3 k h; omega⟩) (by omega) B1).mono ?_
              rintro e w4 ⟨rfl, F4, i4, f4, n4⟩
              rw [HX2.out] at i4
              have z4 := i3.glt
              have g4 : ∀ k, F4 k → g ≤ k := fun k hk => (n4 k hk).elim (fun h => g3 k h) (fun h => by omega)
              have q5 : Nw w w4 := q4.new f4 (fun k h => by have := g3 k h; omega)
              have hL4 := hL3.fr f4 (fun k hk e => by have := hLl k (.inl hk); have := g3 k e; omega) (fun k hk e => by have := hLl k (.inr hk); have := g3 k e; omega)
              have z5 := i4.glt
              clear i3 f4 n4 q4 hL3 g3
              go_wp2_with fail
              refine (texts_any w4 F4 (· < w.heap.size) g _ i4 A2 c2 ts (S2.fr q5 (fun _ _ h => h)) (fun k (hk : k < w.heap.size) => ⟨by omega, fun h => by have := g4 k h; omega⟩) B3).mono ?_
              rintro e w5 ⟨rfl, F5, i5, f5, n5⟩
              rw [HX3.out] at i5
              have g5 : ∀ k, F5 k → g ≤ k := fun k hk => (n5 k hk).elim (fun h => g4 k h) (fun h => by omega)
              have q6 : Nw w w5 := q5.new f5 (fun k h => by have := g4 k h; omega)
              have hL5 := hL4.fr f5 (fun k hk e => by have := hLl k (.inl hk); have := g4 k e; omega) (fun k hk e => by have := hLl k (.inr hk); have := g4 k e; omega)
              have z6 := i5.glt
              clear i4 f5 n5 q5 hL4 g4
              go_wp2_with fail
              refine (rows_any w5 F5 (fun j => inA B j ∨ j ∈ gs) g _ i5 B cB _ rs (hL5.2.1.sl.mono fun b hb _ => .inl hb) (hL5.rowsV hN) (fun k hk => ⟨hL5.lt k hk, fun h => by have := hLl k hk; have := g5 k h; omega⟩) B4).mono ?_
              rintro e w6 ⟨rfl, F6, i6, f6, n6⟩
              rw [← HX4.out] at i6
              have g6 : ∀ k, F6 k → g ≤ k := fun k hk => (n6 k hk).elim (fun h => g5 k h) (fun h => by omega)
              have q7 : Nw w w6 := q6.new f6 (fun k h => by have := g5 k h; omega)
              have hL6 := hL5.fr f6 (fun k hk e => by have := hLl k (.inl hk); have := g5 k e; omega) (fun k hk e => by have := hLl k (.inr hk); have := g5 k e; omega)
              clear i5 f6 n6 q6 hL5 g5 HX1 HX2 HX3 HX4 B1 B2 B3 B4
              go_wp2_with fail
              refine (HDN.out _ _ _ i6).mono ?_
              rintro e w7 ⟨A7, c7, rfl, o7, q8, n7⟩
              have q9 := q7.tr q8
              have i7 := i6.fr q8 (fun _ _ h => h)
              have hL7 := hL6.fr q8 (fun _ _ h => h) (fun _ _ h => h)
              have z7 := i6.glt
              have z7' := q8.size
              go_wp2_with fail
              refine (HRW.out _ (S0.fr q9 (fun _ _ h => h)) (S1.fr q9 (fun _ _ h => h)) (S2.fr q9 (fun _ _ h => h)) (S3.fr q9 (fun _ _ h => h)) (R3.fr q9 (fun _ _ h => h))).mono ?_
              rintro e w8 ⟨A8, c8, rfl, o8, q10, n8⟩
              have q11 := q9.tr q10
              have i8 := i7.fr q10 (fun _ _ h => h)
              have hL8 := hL7.fr q10 (fun _ _ h => h) (fun _ _ h => h)
              have o78 := o7.fr q10 (fun _ _ h => h)
              have z8 := q10.size
              have l78 := o7.lt
              clear i6 i7 hL6 hL7 q7 q8 q9 o7
              go_wp2_with fail
              refine (HDN.out _ _ _ i8).mono ?_
              rintro e w9 ⟨A9, c9, rfl, o9, q12, n9⟩
              have q13 := q11.tr q12
              have hL9 := hL8.fr q12 (fun _ _ h => h) (fun _ _ h => h)
              have o79 := o78.fr q12 (fun _ _ h => h)
              have o89 := o8.fr q12 (fun _ _ h => h)
              clear i8 hL8 o78 o8 q10 q11 q12 HDN HRW
              go_wp2_with fail
              refine (same_u8 _ _ _ _ _ _ _ O O o79.sl o89.sl (by omega)).mono ?_
              rintro e w10 ⟨rfl, m10, rfl⟩
              rw [decide_eq_true rfl]
              have o9' := o9.drewN m10
              have o89' := o89.drewN m10
              have o79' := o79.drewN m10
              have q14 := q13.drewN m10
              have hL10 := hL9.fr (S := fun _ => False) ((Fr.refl _ w9).drewN m10) (fun _ _ h => h) (fun _ _ h => h)
              clear o79 o89 o9 q13 hL9
              go_wp2_with fail
              refine (same_u8 _ _ _ _ _ _ _ O O o9'.sl o89'.sl (by omega)).mono ?_
              rintro e w11 ⟨rfl, m11, rfl⟩
              rw [decide_eq_true rfl]
              have o9 := o9'.drewN m11
              have o79 := o79'.drewN m11
              have q15 := q14.drewN m11
              have hL11 := hL10.fr (S := fun _ => False) ((Fr.refl _ (w9.drewN m10)).drewN m11) (fun _ _ h => h) (fun _ _ h => h)
              clear o89' o79' o9' q14 hL10
              go_wp2_with fail
              rw [World.drewN_drewN] at o9 o79 q15 hL11
              have hkr := fun (W : World) (hLw : LentRs W B cB gs rs) (a : Sl W (· < w.heap.size) A3 vs) (b : RowsV W (· < w.heap.size) vs rs) => kept_rows W _ A3 B c3 cB gs vs rs hLw a b (by omega) hN
              have HKR := Lib.hid hkr
              clear hkr
              refine (HKR.out _ hL11 (S3.fr q15 (fun _ _ h => h)) (R3.fr q15 (fun _ _ h => h))).mono ?_
              rintro e w12 ⟨rfl, q16⟩
              have q17 := q15.tr q16
              have hL12 := hL11.fr q16 (fun _ _ h => h) (fun _ _ h => h)
              have o9' := o9.fr q16 (fun _ _ h => h)
              have o79' := o79.fr q16 (fun _ _ h => h)
              have z12 := q16.size
              clear hL11 o9 o79 q15 q16
              go_wp2_with fail
              obtain ⟨hra, hfar, hsl⟩ := two_rows (c1 := c7) (c2 := c9) o79' o9' (fun b h1 h2 => by have := l78 b h1; have := n9 b h2; omega)
              refine (apartBytes_any _ _ _ 2 2 _ _ _ _ hsl hra hfar (by omega) (fun k hk => by split <;> omega)).mono ?_
              rintro e w13 ⟨rfl, f13⟩
              have f14 : Fr (fun b => inA A7 b ∨ inA A9 b) w12 w13 := (((Fr.refl _ w12).alloc _).trans f13 (fun b hb => .inl (InR_two hb)))
              have q18 : Nw w w13 := q17.new f14 (fun b hb => by rcases hb with h | h; · { have := n7 b h; have := hLl; omega }; · { have := n9 b h; omega })
              have hL13 := hL12.fr f14 (fun k hk hb => by have := hLl k (.inl hk); rcases hb with h | h; · { have := n7 k h; omega }; · { have := n9 k h; omega }) (fun k hk hb => by have := hLl k (.inr hk); rcases hb with h | h; · { have := n7 k h; omega }; · { have := n9 k h; omega })
              clear hL12 o9' o79' q17 f13 f14 hra hfar hsl
              go_wp2_with fail
              refine (HKR.out _ hL13 (S3.fr q18 (fun _ _ h => h)) (R3.fr q18 (fun _ _ h => h))).mono ?_
              rintro e w14 ⟨rfl, q19⟩
              go_wp2_with fail
              refine (awake02 _).mono ?_
              rintro e w15 ⟨rfl, q20⟩
              go_wp2_with fail
              go_ret
              exact ⟨rfl, (q18.tr q19).tr q20⟩
end Go.Proofs.Ytoapobgnfgfobaa
