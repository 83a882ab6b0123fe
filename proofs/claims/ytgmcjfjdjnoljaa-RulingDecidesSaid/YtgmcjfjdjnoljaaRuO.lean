/- Rulings: what the program's book has of flags. -/
import Derived.Test.YtgmcjfjdjnoljaaRuI
import Derived.Test.YtgmcjfjdjnoljaaRuK
namespace Go.Proofs.Ytgmcjfjdjnoljaa
open Go Go.RowKit

def BlTo (w : World) (l : List Bool) (m : Bool) (i : Value) (wx : World) : Prop := ∃ k : Nat, k ≤ l.length ∧ i = .int .i64 k ∧ (∀ j (h : j < l.length), j < k → l[j] ≠ m) ∧ wx = w
set_option maxRecDepth 100000 in
theorem indexBool_any (w : World) (F : Nat → Prop) (A : Option Addr) (c : Nat) (l : List Bool) (m : Bool) (hs : Sl w F A (l.map Value.bool)) (hl : l.length ≤ 1000000000) :
    Calls Try.prog 80 #[.slice A l.length c, .bool m] w fun e w' => ∃ i : Int, e = .returned (.int .i64 i) ∧ (0 ≤ i ↔ l.contains m = true) ∧ w = w' := by
  obtain ⟨ct, hct⟩ : ∃ ct, l.contains m = ct := ⟨_, rfl⟩
  rw [hct]
  have HC := Lib.hid hct
  clear hct
  go_enter Try.func80, Try.ntmps80
  go_wp2_with fail
  go_loopw [8] (fun i wx => BlTo w l m i wx) (fun i _ => l.length - (intOf i).toNat)
  case atStart => exact ⟨0, Nat.zero_le _, rfl, fun _ _ h => by omega, rfl⟩
  case round =>
    obtain ⟨k, hk, rfl, hok, rfl⟩ := hrel
    have HK := Lib.hid hok
    clear hok
    by_cases hlt : k < l.length
    · obtain ⟨b, o, rfl, _, hc⟩ := hs.get hlt
      obtain ⟨x, hx⟩ : ∃ x, l[k] = x := ⟨_, rfl⟩
      rw [hx] at hc
      have HX := Lib.hid hx
      clear hx
      have good : ∀ (y : Bool), x = y → y = m → ∃ i : Int, Ending.returned (.int .i64 (k : Int)) = .returned (.int .i64 i) ∧ (0 ≤ i ↔ ct = true) ∧ wr = wr := fun y h1 h2 =>
        ⟨k, rfl, ⟨fun _ => HC.out ▸ List.contains_iff_mem.2 (by rw [← h2, ← h1, ← HX.out]; exact List.getElem_mem hlt), fun _ => by omega⟩, rfl⟩
      cases x <;> cases m
      · go_wp2_with fail
        go_ret
        obtain ⟨i, h1, h2, _⟩ := good false rfl rfl
        exact ⟨i, h1, h2, rfl⟩
      · go_wp2_with fail
        go_roundw
        case rel =>
          refine ⟨k + 1, by omega, rfl, fun j hj hjk => ?_, rfl⟩
          by_cases hjk2 : j < k
          · exact HK.out j hj hjk2
          · obtain rfl : j = k := by omega
            rw [HX.out]; decide
        case measure => simp [intOf]; omega
      · go_wp2_with fail
        go_roundw
        case rel =>
          refine ⟨k + 1, by omega, rfl, fun j hj hjk => ?_, rfl⟩
          by_cases hjk2 : j < k
          · exact HK.out j hj hjk2
          · obtain rfl : j = k := by omega
            rw [HX.out]; decide
        case measure => simp [intOf]; omega
      · go_wp2_with fail
        go_ret
        obtain ⟨i, h1, h2, _⟩ := good true rfl rfl
        exact ⟨i, h1, h2, rfl⟩
    · go_wp2_with fail
      go_ret
      have e : ct = false := by
        rw [← HC.out]
        refine Bool.eq_false_iff.2 fun h => ?_
        obtain ⟨j, hj, hje⟩ := List.mem_iff_getElem.1 (List.contains_iff_mem.1 h)
        exact HK.out j hj (by omega) hje
      exact ⟨-1, rfl, ⟨fun h => by omega, fun h => by rw [e] at h; cases h⟩, rfl⟩
theorem containsBool_any (w : World) (F : Nat → Prop) (A : Option Addr) (c : Nat) (l : List Bool) (m : Bool) (hs : Sl w F A (l.map Value.bool)) (hl : l.length ≤ 1000000000) :
    Calls Try.prog 59 #[.slice A l.length c, .bool m] w fun e w' => e = .returned (.bool (l.contains m)) ∧ w = w' := by
  go_enter Try.func59, Try.ntmps59
  go_wp2_with fail
  refine (indexBool_any w F A c l m hs hl).mono ?_
  rintro e w1 ⟨i, rfl, hi, rfl⟩
  have hd : decide (0 ≤ i) = l.contains m := by
    by_cases h0 : 0 ≤ i
    · rw [decide_eq_true h0, hi.1 h0]
    · have hn : l.contains m = false := by
        cases h : l.contains m with
        | false => rfl
        | true => exact (h0 (hi.2 h)).elim
      rw [decide_eq_false h0, hn]
  have HD := Lib.hid hd
  clear hd hi
  go_wp2_with fail
  go_ret
  exact ⟨congrArg (fun b => Ending.returned (.bool b)) HD.out, rfl⟩

theorem filter_one (p : Ver → Bool) (x : Ver) : List.filter p [x] = if p x = true then [x] else [] := by
  by_cases h : p x = true <;> simp [List.filter_cons, h]
theorem allV_succ (cs : List Bool) (l : List Ver) (k : Nat) (h : k < l.length) : allV cs (l.take (k + 1)) = allV cs (l.take k) ++ (if (decide (cs.length = 0) || cs.contains l[k].2.1) = true then [l[k]] else []) := by
  unfold allV
  rw [List.take_succ_eq_append_getElem h, List.filter_append]
  congr 1
  exact filter_one _ _
/-- A list of verdicts of the call's own. -/
def OwnVs (w0 : World) (T : TypeId) (w : World) (vs : List Ver) (v : Value) : Prop :=
  ∃ A c cs I, v = .slice A vs.length c ∧ Own w T 5 A vs.length c cs ∧ VersC w I vs cs ∧ (∀ k, inA A k → w0.heap.size ≤ k) ∧ (∀ k, I k → w0.heap.size ≤ k ∧ k < w.heap.size ∧ ¬ inA A k)
theorem OwnVs.fr {w0 w w' : World} {T : TypeId} {vs : List Ver} {v : Value} (h : OwnVs w0 T w vs v) (q : Nw w w') : OwnVs w0 T w' vs v := by
  obtain ⟨A, c, cs, I, h1, h2, h3, h4, h5⟩ := h
  exact ⟨A, c, cs, I, h1, h2.fr q (fun _ _ h => h), h3.fr q (fun _ _ h => h), h4, fun k hk => ⟨(h5 k hk).1, Nat.lt_of_lt_of_le (h5 k hk).2.1 q.size, (h5 k hk).2.2⟩⟩
/-- One more. -/
theorem ownVs_app {w0 W w3 w6 : World} {T : TypeId} {vs : List Ver} {A : Option Addr} {c n : Nat} {cs : List Value} {I : Nat → Prop} (hn : n = vs.length) (ho : Own W T 5 A n c cs) (hv : VersC W I vs cs) (hA : ∀ k, inA A k → w0.heap.size ≤ k) (hI : ∀ k, I k → w0.heap.size ≤ k ∧ k < W.heap.size ∧ ¬ inA A k)
    (hw0 : w0.heap.size ≤ W.heap.size) (v : Ver) {A3 A6 : Option Addr} {c3 c6 : Nat} (hl3 : v.2.2.2.length ≤ c3) (hm3 : c3 ≤ maxLen) (hs3 : Sl w3 (fun k => W.heap.size ≤ k) A3 (rdgsCells v.2.2.2)) (q3 : Nw W w3)
    (hap : AppTo (w3.alloc (.cells #[I64 v.1.1, I64 v.1.2, .bool v.2.1, I64 v.2.2.1, .slice A3 v.2.2.2.length c3] T)) T 5 A n c 1 cs (verL v A3 c3) A6 c6 w6) :
    OwnVs w0 T w6 (vs ++ [v]) (.slice A6 (n + 1) c6) ∧ Fr (inA A) W w6 := by
  subst hn
  have hlen1 : (vs ++ [v]).length = vs.length + 1 := by simp
  obtain ⟨o6, _, h3⟩ := hap
  have fr : Fr (inA A) W w6 ∧ Fr (inA A) w3 w6 := by
    rcases h3 with ⟨_, _, _, hf⟩ | ⟨_, _, hf⟩
    · exact ⟨(Nw.on (q3.alloc _)).tr hf, ((Fr.refl _ w3).alloc _).tr hf⟩
    · exact ⟨(Nw.on (q3.alloc _)).tr (Nw.on hf), ((Fr.refl _ w3).alloc _).tr (Nw.on hf)⟩
  have a6 : ∀ k, inA A6 k → inA A k ∨ w3.heap.size ≤ k := by
    intro k hk
    rcases h3 with ⟨_, rfl, _, _⟩ | ⟨_, rfl, _⟩
    · exact .inl hk
    · right
      rw [(inA_some _ _).1 hk]
      simp
  have hAl := ho.lt
  have hs23 : W.heap.size ≤ w3.heap.size := q3.size
  have hs36 : w3.heap.size ≤ w6.heap.size := fr.2.size
  refine ⟨⟨A6, c6, cs ++ verL v A3 c3, fun k => I k ∨ (W.heap.size ≤ k ∧ k < w3.heap.size), by rw [hlen1], by rw [hlen1]; exact o6, ?_, fun k hk => ?_, fun k hk => ?_⟩, fr.1⟩
  · refine VersC.snoc ((hv.fr fr.1 fun k hk => (hI k hk).2.2).mono fun k hk _ => .inl hk) ⟨A3, c3, rfl, hl3, hm3, (hs3.mono (F' := fun k => W.heap.size ≤ k ∧ k < w3.heap.size) fun k hk hk2 => ⟨hk, hk2⟩).fr fr.2 (fun k hk hi => ?_) |>.mono fun k hk _ => .inr hk⟩
    have := hAl k hi
    omega
  · rcases a6 k hk with h1 | h1
    · exact hA k h1
    · omega
  · rcases hk with h1 | h1
    · obtain ⟨h2, h3, h4⟩ := hI k h1
      refine ⟨h2, by omega, fun h6 => ?_⟩
      rcases a6 k h6 with h7 | h7
      · exact h4 h7
      · omega
    · refine ⟨by omega, by omega, fun h6 => ?_⟩
      rcases a6 k h6 with h7 | h7
      · have := hAl k h7; omega
      · omega
def AllRel (w : World) (T : TypeId) (cm : List Bool) (l : List Ver) (out i : Value) (wr : World) : Prop := ∃ k : Nat, k ≤ l.length ∧ i = .int .i64 k ∧ OwnVs w T wr (allV cm (l.take k)) out ∧ Nw w wr
set_option maxRecDepth 100000 in
set_option maxHeartbeats 4000000 in
theorem bkAll_any (w : World) (F Fc : Nat → Prop) (g : Nat) (l : List Ver) (h : IsBk w F g l) (Ac : Option Addr) (cc : Nat) (cm : List Bool) (hc : Sl w Fc Ac (cm.map Value.bool)) (hcl : cm.length ≤ 1000000000) (hz : VersSz l) (hl : l.length ≤ 2000000000) :
    Calls Try.prog 30 #[.pointer (some ⟨g, 0, none⟩), .slice Ac cm.length cc] w fun e w' => ∃ v, e = .returned v ∧ OwnVs w 38 w' (allV cm l) v ∧ Nw w w' := by
  obtain ⟨A, cap, hm, cs, I, hb, ho, hv, _⟩ := id h
  have g0 : w.cell? ⟨g, 0, none⟩ = some (.slice A l.length cap) := by simpa using hb.cell 0
  have hall : allV cm l = allV cm (l.take l.length) := by rw [List.take_length]
  obtain ⟨nc, hnc⟩ : ∃ nc, nc = cm.length := ⟨_, rfl⟩
  rw [← hnc]
  have HNC := Lib.hid hnc
  have hcl : nc ≤ 1000000000 := by omega
  clear hnc
  go_enter Try.func30, Try.ntmps30
  go_wp2_with (go_at_call 37; refine (bkKnown_any _ _ _ _ h).mono ?_; rintro e w' ⟨rfl, rfl⟩)
  go_loopw [5, 17] (fun o i wx => AllRel w 38 cm l o i wx) (fun _ i _ => l.length - (intOf i).toNat)
  case atStart => exact ⟨0, Nat.zero_le _, rfl, ⟨none, 0, [], fun _ => False, rfl, Own.nil _ _ _, VersC.nil _ _, fun k hk => (inA_none k hk).elim, fun k hk => hk.elim⟩, Fr.refl _ _⟩
  case round =>
    obtain ⟨k, hk, rfl, hout, hq⟩ := hrel
    by_cases hlt : k < l.length
    · obtain ⟨bA, oA, A', c', rfl, _, hcell, _, _, hs'⟩ := (ho.fr hq (fun _ _ h => h)).sl.ver (hv.fr hq (fun _ _ h => h)) hlt
      have hsucc := allV_succ cm l k hlt
      have hzk := hz _ (List.getElem_mem hlt)
      obtain ⟨v, hvk⟩ : ∃ v, l[k] = v := ⟨_, rfl⟩
      rw [hvk] at hcell hs' hsucc hzk
      have HS := Lib.hid hsucc
      have hvs : (allV cm (l.take k)).length ≤ l.length := by
        unfold allV
        exact Nat.le_trans (List.length_filter_le _ _) (by simp; omega)
      generalize allV cm (l.take k) = vs at hout HS hvs
      have hT := Blk.new wr 38 zeroC
      have h1T := ver_one v.1.1 v.1.2 v.2.1 v.2.2.1 (.slice A' v.2.2.2.length c') rfl
      have hT2 := hT.row #[I64 v.1.1, I64 v.1.2, .bool v.2.1, I64 v.2.2.1, .slice A' v.2.2.2.length c']
      obtain ⟨w2, hw2⟩ : ∃ w2, w2 = (wr.alloc (.cells zeroC 38)).setRow wr.heap.size #[I64 v.1.1, I64 v.1.2, .bool v.2.1, I64 v.2.2.1, .slice A' v.2.2.2.length c'] := ⟨_, rfl⟩
      have q12 : Nw wr w2 := by rw [hw2]; exact ((Fr.refl (fun _ => False) wr).alloc _).setRow (.inr (Nat.le_refl _)) _
      rw [← hw2] at hT2
      have HW2 := Lib.hid hw2
      clear hw2 hsucc hvk
      have Q2 := hq.tr q12
      have t1 : w2.cell? ⟨wr.heap.size, 2, none⟩ = some (.bool v.2.1) := by simpa using hT2.cell 2
      have hcon := containsBool_any w2 Fc Ac cc cm v.2.1 (hc.fr Q2 (fun _ _ h => h)) (by rw [← HNC.out]; exact hcl)
      have hcop := copied_any w2 I v A' c' (hs'.fr q12 (fun _ _ h => h)) (by have := hzk.1; omega)
      obtain ⟨A5, c5, cs5, I5, rfl, o5, v5, a5, i5⟩ := hout.fr q12
      have hby : (vs.length + 1) * 56 ≤ 140737488355328 := by omega
      have hmx : vs.length + 1 ≤ maxLen := by unfold maxLen; omega
      have hQs : w.heap.size ≤ w2.heap.size := Q2.size
      obtain ⟨nv, hnv⟩ : ∃ nv, nv = vs.length := ⟨_, rfl⟩
      rw [← hnv] at o5 hby hmx ⊢
      have HNV := Lib.hid hnv
      rw [← HNC.out] at hcon
      rw [← HNC.out] at HS
      clear hnv
      by_cases h0 : nc = 0
      · have h0i : (nc : Int) = 0 := by omega
        have hi2 : (decide (nc = 0) || cm.contains v.2.1) = true := by rw [decide_eq_true h0]; rfl
        have HI := Lib.hid hi2
        subst h0
        clear hi2 h0i
        go_wp2_with (first | (refine wl_load_cells rfl 38 _ rfl bA (oA + k * 5) rfl (verL v A' c') _ hcell Try.underlying38 rfl ver_size ?_) | (refine wpList_store_row rfl 38 _ _ rfl wr.heap.size _ rfl rfl 38 _ hT ver_size rfl h1T ?_; rw [← HW2.out]) | (refine wpList_load_row rfl 38 _ rfl wr.heap.size rfl 38 _ (0, 0) _ hT2 Try.underlying38 rfl ver_size ?_) | (go_at_call 44; refine hcop.mono ?_; rintro e w3 ⟨A3, c3, rfl, hl3, hm3, hs3, q3⟩; have o3 := o5.fr q3 (fun _ _ h => h)) | (at_builtin; refine wl_append2 rfl _ _ _ rfl 56 (.agg #[.int .i64 0, .int .i64 0, .bool false, .int .i64 0, .slice none 0 0]) Try.underlying22 info_ver rfl (by decide) rfl (o3.alloc _) rfl (sl_new w3 38 (verL v A3 c3) _ rfl) rfl (verL_one v A3 c3) hby hmx ?_; intro A6 c6 w6 hap6; obtain ⟨hown, f6⟩ := ownVs_app HNV.out o5 v5 a5 i5 hQs v hl3 hm3 hs3 q3 hap6))
        go_roundw
        case rel =>
          refine ⟨k + 1, by omega, by go_num, ?_, Q2.trans f6 fun j hj => .inr (a5 j hj)⟩
          rw [HS.out, if_pos HI.out]
          exact hown
        case measure => simp [intOf]; omega
      · have h0i : ¬ (nc : Int) = 0 := by omega
        have hd0 : decide (nc = 0) = false := decide_eq_false h0
        obtain ⟨ct, hct⟩ : ∃ ct, cm.contains v.2.1 = ct := ⟨_, rfl⟩
        rw [hct] at hcon
        have hi2 : (decide (nc = 0) || cm.contains v.2.1) = ct := by rw [hd0, hct]; rfl
        have HI := Lib.hid hi2
        clear hi2 hct hd0
        cases ct
        · go_wp2_with (first | (refine wl_load_cells rfl 38 _ rfl bA (oA + k * 5) rfl (verL v A' c') _ hcell Try.underlying38 rfl ver_size ?_) | (refine wpList_store_row rfl 38 _ _ rfl wr.heap.size _ rfl rfl 38 _ hT ver_size rfl h1T ?_; rw [← HW2.out]) | (go_at_call 59; refine hcon.mono ?_; rintro e w' ⟨rfl, rfl⟩))
          go_roundw
          case rel =>
            refine ⟨k + 1, by omega, by go_num, ?_, Q2⟩
            rw [HS.out, if_neg (by rw [HI.out]; decide), List.append_nil]
            exact ⟨A5, c5, cs5, I5, by rw [← HNV.out], by rw [← HNV.out]; exact o5, v5, a5, i5⟩
          case measure => simp [intOf]; omega
        · go_wp2_with (first | (refine wl_load_cells rfl 38 _ rfl bA (oA + k * 5) rfl (verL v A' c') _ hcell Try.underlying38 rfl ver_size ?_) | (refine wpList_store_row rfl 38 _ _ rfl wr.heap.size _ rfl rfl 38 _ hT ver_size rfl h1T ?_; rw [← HW2.out]) | (go_at_call 59; refine hcon.mono ?_; rintro e w' ⟨rfl, rfl⟩) | (refine wpList_load_row rfl 38 _ rfl wr.heap.size rfl 38 _ (0, 0) _ hT2 Try.underlying38 rfl ver_size ?_) | (go_at_call 44; refine hcop.mono ?_; rintro e w3 ⟨A3, c3, rfl, hl3, hm3, hs3, q3⟩; have o3 := o5.fr q3 (fun _ _ h => h)) | (at_builtin; refine wl_append2 rfl _ _ _ rfl 56 (.agg #[.int .i64 0, .int .i64 0, .bool false, .int .i64 0, .slice none 0 0]) Try.underlying22 info_ver rfl (by decide) rfl (o3.alloc _) rfl (sl_new w3 38 (verL v A3 c3) _ rfl) rfl (verL_one v A3 c3) hby hmx ?_; intro A6 c6 w6 hap6; obtain ⟨hown, f6⟩ := ownVs_app HNV.out o5 v5 a5 i5 hQs v hl3 hm3 hs3 q3 hap6))
          go_roundw
          case rel =>
            refine ⟨k + 1, by omega, by go_num, ?_, Q2.trans f6 fun j hj => .inr (a5 j hj)⟩
            rw [HS.out, if_pos HI.out]
            exact hown
          case measure => simp [intOf]; omega
    · have hkl : k = l.length := by omega
      subst hkl
      go_wp2_with fail
      go_ret
      rw [hall]
      exact ⟨_, rfl, hout, hq⟩
end Go.Proofs.Ytgmcjfjdjnoljaa
