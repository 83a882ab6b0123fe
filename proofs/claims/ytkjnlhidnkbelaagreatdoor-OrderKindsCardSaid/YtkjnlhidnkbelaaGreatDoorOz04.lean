/- Lemmas of the walks: WrB, RdA, RdB, RdC, Gr4, KitA. (Laid together by shake.py.) -/
import Derived.Deep.MidRow
import Derived.Deep.DeepCutAuto
import Derived.Test.YtkjnlhidnkbelaaGreatDoorOz02
import Derived.Test.YtkjnlhidnkbelaaGreatDoorOz03
set_option linter.unusedVariables false
set_option linter.unusedSimpArgs false
namespace Go.Proofs.YtkjnlhidnkbelaaGreatDoor
open Go Go.RowKit

theorem wknown_yes (w : World) (F : Nat → Prop) (g : Nat) (s : Wr) (h : IsWr w F g s) :
    Calls Tryz.prog 94 #[.pointer (some ⟨g, 0, none⟩)] w fun e w' => e = .returned (.bool true) ∧ w = w' := by
  obtain ⟨A, cap, hb, -⟩ := h
  have c0 := hb.cell 0
  simp at c0
  go_enter Tryz.func94, Tryz.ntmps94
  go_wp2
  go_ret
  exact ⟨rfl, rfl⟩

theorem number_any (w : World) (F : Nat → Prop) (g : Nat) (s : Wr) (h : IsWr w F g s) (n : Int) (hsz : s.bs.length ≤ 900000000000) :
    Calls Tryz.prog 95 #[.pointer (some ⟨g, 0, none⟩), .int .i64 n] w fun e w' => e = .returned (.tuple #[]) ∧ WrTo w F g (wrNum n s) w' := by
  unfold wrNum
  by_cases hn : n < 0 ∨ (topN : Int) < n
  · rw [if_pos hn]
    exact number_bad w F g s h n hn
  · rw [if_neg hn]
    obtain ⟨k, rfl⟩ := Int.eq_ofNat_of_zero_le (show 0 ≤ n by omega)
    rw [Int.toNat_natCast]
    exact number_ok w F g s h k (by unfold topN at hn; omega) hsz

theorem newWriter_any (w : World) :
    Calls Tryz.prog 37 #[] w fun e w' => e = .returned (.pointer (some ⟨w.heap.size, 0, none⟩)) ∧ IsWr w' (· = w.heap.size) w.heap.size ⟨true, []⟩ ∧ Fr (fun _ => False) w w' := by
  go_enter Tryz.func37, Tryz.ntmps37
  go_wp2
  go_ret
  refine ⟨rfl, ⟨none, 0, Blk.new _ _ _, Own.nil _ _ _, rfl, fun k hk => (inA_none k hk).elim, fun k hk => by subst hk; simp⟩, (Fr.refl _ w).alloc _⟩

/-- The writer's state in a loop. -/
def WrLoop (w : World) (F : Nat → Prop) (g : Nat) (s : Nat → Wr) (m : Nat) (v : Value) (wr : World) : Prop :=
  ∃ k : Nat, v = .int .i64 k ∧ k ≤ m ∧ WrTo w F g (s k) wr

theorem WrTo.refl {w : World} {F : Nat → Prop} {g : Nat} {s : Wr} (h : IsWr w F g s) : WrTo w F g s w := ⟨F, h, Fr.refl _ _, fun _ hk => .inl hk⟩

theorem numbers_any (w : World) (F F2 : Nat → Prop) (g : Nat) (s : Wr) (h : IsWr w F g s) (A2 : Option Addr) (c : Nat) (ns : List Int) (hsl : Sl w F2 A2 (ns.map I64)) (hd : Apart w F2 F) (hmax : ns.length ≤ 1000000000)
    (hsz : s.bs.length ≤ 800000000000) :
    Calls Tryz.prog 38 #[.pointer (some ⟨g, 0, none⟩), .slice A2 ns.length c] w fun e w' => e = .returned (.pointer (some ⟨g, 0, none⟩)) ∧ WrTo w F g (wrNums ns s) w' := by
  go_enter Tryz.func38, Tryz.ntmps38
  go_wp2_with (go_at_call 94; refine (wknown_yes _ _ _ _ h).mono ?_; rintro e w' ⟨rfl, rfl⟩)
  go_loopw [6, 11] (fun _ i wr => WrLoop w F g (fun k => wrNums (ns.take k) s) ns.length i wr) (fun _ i _ => ns.length - (intOf i).toNat)
  case atStart => exact ⟨0, rfl, Nat.zero_le _, WrTo.refl h⟩
  case round =>
    obtain ⟨k, rfl, hk, F', hw, hf, hF⟩ := hrel
    by_cases hlt : k < ns.length
    · obtain ⟨b, o, rfl, hFb, hc⟩ := (hsl.fr hf hd.no).get hlt
      have hlen := wrNums_len (ns.take k) s
      rw [List.length_take] at hlen
      go_wp2_with (go_at_call 95; refine (number_any _ _ _ _ hw _ (by omega)).mono ?_; rintro e w2 ⟨rfl, h2⟩)
      go_roundw
      case rel =>
        refine ⟨k + 1, by go_num, by omega, ?_⟩
        show WrTo w F g (wrNums (ns.take (k + 1)) s) w2
        rw [wrNums_succ _ _ hlt]
        exact WrTo.trans hf hF h2
      case measure => simp [intOf]; omega
    · go_wp2_with fail
      go_ret
      refine ⟨rfl, ?_⟩
      have e : ns.take k = ns := List.take_of_length_le (by omega)
      rw [e] at hw
      exact ⟨F', hw, hf, hF⟩

theorem flags_any (w : World) (F F2 : Nat → Prop) (g : Nat) (s : Wr) (h : IsWr w F g s) (A2 : Option Addr) (c : Nat) (ns : List Bool) (hsl : Sl w F2 A2 (ns.map Value.bool)) (hd : Apart w F2 F) (hmax : ns.length ≤ 1000000000)
    (hsz : s.bs.length ≤ 800000000000) :
    Calls Tryz.prog 40 #[.pointer (some ⟨g, 0, none⟩), .slice A2 ns.length c] w fun e w' => e = .returned (.pointer (some ⟨g, 0, none⟩)) ∧ WrTo w F g (wrFlags ns s) w' := by
  go_enter Tryz.func40, Tryz.ntmps40
  go_wp2_with (go_at_call 94; refine (wknown_yes _ _ _ _ h).mono ?_; rintro e w' ⟨rfl, rfl⟩)
  go_loopw [6, 11] (fun _ i wr => WrLoop w F g (fun k => wrFlags (ns.take k) s) ns.length i wr) (fun _ i _ => ns.length - (intOf i).toNat)
  case atStart => exact ⟨0, rfl, Nat.zero_le _, WrTo.refl h⟩
  case round =>
    obtain ⟨k, rfl, hk, F', hw, hf, hF⟩ := hrel
    by_cases hlt : k < ns.length
    · obtain ⟨b, o, rfl, hFb, hc⟩ := (hsl.fr hf hd.no).get hlt
      have hlen := wrFlags_len (ns.take k) s
      rw [List.length_take] at hlen
      have HL : (wrFlags (ns.take k) s).bs.length + 1 ≤ 1000000000000 := by omega
      clear hlen
      have hsucc := Lib.hid (wrFlags_succ ns k hlt s)
      cases hx : ns[k]
      · rw [hx] at hc
        have HX := Lib.hid hx
        clear hx
        go_wp2_with (go_at_call 96; refine (put_any _ F' _ g _ (hw.alloc _) _ 1 1 [0] rfl ((Blk.new _ _ _).sl 0 1) HL).mono ?_; rintro e w2 ⟨rfl, h2⟩)
        go_roundw
        case rel =>
          refine ⟨k + 1, by go_num, by omega, ?_⟩
          show WrTo w F g (wrFlags (ns.take (k + 1)) s) w2
          rw [hsucc.out, HX.out]
          exact WrTo.trans hf hF h2.alloc
        case measure => simp [intOf]; omega
      · rw [hx] at hc
        have HX := Lib.hid hx
        clear hx
        go_wp2_with (go_at_call 96; refine (put_any _ F' _ g _ (hw.alloc _) _ 1 1 [1] rfl ((Blk.new _ _ _).sl 0 1) HL).mono ?_; rintro e w2 ⟨rfl, h2⟩)
        go_roundw
        case rel =>
          refine ⟨k + 1, by go_num, by omega, ?_⟩
          show WrTo w F g (wrFlags (ns.take (k + 1)) s) w2
          rw [hsucc.out, HX.out]
          exact WrTo.trans hf hF h2.alloc
        case measure => simp [intOf]; omega
    · go_wp2_with fail
      go_ret
      refine ⟨rfl, ?_⟩
      have e : ns.take k = ns := List.take_of_length_le (by omega)
      rw [e] at hw
      exact ⟨F', hw, hf, hF⟩

theorem rows_any (w : World) (F F2 : Nat → Prop) (g : Nat) (s : Wr) (h : IsWr w F g s) (A2 : Option Addr) (c : Nat) (vs : List Value) (rs : List (List UInt8)) (hsl : Sl w F2 A2 vs) (hrs : RowsV w F2 vs rs) (hd : Apart w F2 F)
    (hsz : s.bs.length + 9 * rs.length + rowsLen rs ≤ 800000000000) :
    Calls Tryz.prog 43 #[.pointer (some ⟨g, 0, none⟩), .slice A2 rs.length c] w fun e w' => e = .returned (.pointer (some ⟨g, 0, none⟩)) ∧ WrTo w F g (wrRows rs s) w' := by
  go_enter Tryz.func43, Tryz.ntmps43
  go_wp2_with (go_at_call 94; refine (wknown_yes _ _ _ _ h).mono ?_; rintro e w' ⟨rfl, rfl⟩)
  go_loopw [6, 11] (fun _ i wr => WrLoop w F g (fun k => wrRows (rs.take k) s) rs.length i wr) (fun _ i _ => rs.length - (intOf i).toNat)
  case atStart => exact ⟨0, rfl, Nat.zero_le _, WrTo.refl h⟩
  case round =>
    obtain ⟨k, rfl, hk, F', hw, hf, hF⟩ := hrel
    by_cases hlt : k < rs.length
    · have hlen := wrRows_len (rs.take k) s
      rw [List.length_take] at hlen
      have hle := rowsLen_get rs k hlt
      have hb1 : (wrRows (rs.take k) s).bs.length ≤ 800000000000 ∧ (wrRows (rs.take k) s).bs.length + rs[k].length ≤ 800000000000 ∧ rs[k].length ≤ 800000000000 := by omega
      clear hlen hle
      have hsucc := Lib.hid (wrRows_succ rs k hlt s)
      obtain ⟨v, hv, A3, c3, rfl, hc1, hc2, hs3⟩ := (hrs.fr hf hd.no).2 k hlt
      obtain ⟨b, o, rfl, hFb, _, hcs⟩ := (hsl.fr hf hd.no).at_ (by rintro rfl; simp at hv)
      have hc := hcs k _ hv
      clear hcs
      have HV := Lib.hid hv
      clear hv
      have hn : ((rs[k].length : Nat) : Int).toNat = rs[k].length := Int.toNat_natCast _
      have hnb : ¬ (((rs[k].length : Nat) : Int) < 0 ∨ (topN : Int) < ((rs[k].length : Nat) : Int)) := by unfold topN; omega
      have hstep : wrNum ((rs[k].length : Nat) : Int) (wrRows (rs.take k) s) = { wrRows (rs.take k) s with bs := (wrRows (rs.take k) s).bs ++ enc rs[k].length } := by
        unfold wrNum; rw [if_neg hnb, hn]
      have HS := Lib.hid hstep
      clear hstep hn hnb
      have he9 := enc_len rs[k].length
      go_wp2_with fail
      refine (number_any _ _ _ _ hw _ (by omega)).mono ?_
      rintro e w2 ⟨rfl, F2', hw2, hf2, hn2⟩
      rw [HS.out] at hw2
      have hF2 : ∀ j, F2' j → F j ∨ w.heap.size ≤ j := fun j hj => (hn2 j hj).elim (hF j) (fun h => .inr (Nat.le_trans hf.size h))
      have hff := hf.trans hf2 hF
      go_wp2_with fail
      refine (put_any _ F2' _ g _ hw2 _ _ _ rs[k] rfl (hs3.fr hf2 (hd.step hf.size hF).no) ?_).mono ?_
      · simp; omega
      rintro e w3 ⟨rfl, h3⟩
      go_wp2_with fail
      go_roundw
      case rel =>
        refine ⟨k + 1, by go_num, by omega, ?_⟩
        show WrTo w F g (wrRows (rs.take (k + 1)) s) w3
        rw [hsucc.out]
        have := WrTo.trans hff hF2 h3
        simpa [wrRow] using this
      case measure => simp [intOf]; omega
    · go_wp2_with fail
      go_ret
      refine ⟨rfl, ?_⟩
      have e : rs.take k = rs := List.take_of_length_le (by omega)
      rw [e] at hw
      exact ⟨F', hw, hf, hF⟩

/-- A text's bytes, and what lies behind them. -/
theorem string_sl (w : World) (s : ByteArray) (cap : Nat) (t : TypeId) (fr : Nat × Nat) :
    Sl (w.alloc (.cells (bytesRow s cap) t fr)) (· = w.heap.size) (some ⟨w.heap.size, 0, none⟩) (s.data.toList.map B8) := by
  refine .inr ⟨w.heap.size, 0, rfl, rfl, by simp, fun j u hu => ?_⟩
  have hh : (w.alloc (.cells (bytesRow s cap) t fr)).heap[w.heap.size]? = some (.cells (bytesRow s cap) t fr) := heap_alloc_new w _
  rw [cell_of_row _ _ _ _ _ _ hh]
  simp at hu
  obtain ⟨a, ha, rfl⟩ := hu
  have hlt : j < s.data.size := by
    rcases Nat.lt_or_ge j s.data.size with h | h
    · exact h
    · rw [Array.getElem?_eq_none h] at ha; cases ha
  have hlt2 : j < s.size := hlt
  simp only [bytesRow]
  rw [Array.getElem?_append_left (by simpa using hlt2)]
  simp [ha]

theorem bytes_size (s : ByteArray) : s.data.toList.length = s.size := rfl

/-- One row, which is a text's bytes. -/
theorem rows_text (wr : World) (F : Nat → Prop) (g : Nat) (s : Wr) (hw : IsWr wr F g s) (x : ByteArray) (cp : Nat) (fr : Nat × Nat) (hlb : x.size ≤ cp) (hub : cp ≤ maxLen) (hsz : s.bs.length + 9 + x.size ≤ 800000000000) :
    Calls Tryz.prog 43 #[.pointer (some ⟨g, 0, none⟩), .slice (some ⟨wr.heap.size + 1, 0, none⟩) 1 1]
      ((wr.alloc (.cells (bytesRow x cp) 5 fr)).alloc (.cells #[.slice (some ⟨wr.heap.size, 0, none⟩) x.size cp] 22)).drew
      fun e w' => e = .returned (.pointer (some ⟨g, 0, none⟩)) ∧ WrTo wr F g (wrRow x.data.toList s) w' := by
  have hsl := (Blk.new (wr.alloc (.cells (bytesRow x cp) 5 fr)) 22 #[.slice (some ⟨wr.heap.size, 0, none⟩) x.size cp]).sl 0 1
  simp only [World.size_alloc, List.drop_zero] at hsl
  have hlt : ∀ k, F k → k < wr.heap.size := by obtain ⟨_, _, _, _, _, _, h⟩ := hw; exact h
  have h2 : Calls Tryz.prog 43 #[.pointer (some ⟨g, 0, none⟩), .slice (some ⟨wr.heap.size + 1, 0, none⟩) 1 1]
      ((wr.alloc (.cells (bytesRow x cp) 5 fr)).alloc (.cells #[.slice (some ⟨wr.heap.size, 0, none⟩) x.size cp] 22)).drew
      fun e w' => e = .returned (.pointer (some ⟨g, 0, none⟩)) ∧ WrTo ((wr.alloc (.cells (bytesRow x cp) 5 fr)).alloc (.cells #[.slice (some ⟨wr.heap.size, 0, none⟩) x.size cp] 22)).drew F g (wrRows [x.data.toList] s) w' :=
    rows_any (((wr.alloc (.cells (bytesRow x cp) 5 fr)).alloc (.cells #[.slice (some ⟨wr.heap.size, 0, none⟩) x.size cp] 22)).drew) F (fun j => j = wr.heap.size ∨ j = wr.heap.size + 1) g s ((hw.alloc (.cells (bytesRow x cp) 5 fr)).alloc (.cells #[.slice (some ⟨wr.heap.size, 0, none⟩) x.size cp] 22)) (some ⟨wr.heap.size + 1, 0, none⟩) 1
    [.slice (some ⟨wr.heap.size, 0, none⟩) x.size cp] [x.data.toList] (hsl.mono fun b hb _ => .inr hb)
    ⟨rfl, fun j hj => by
      obtain rfl : j = 0 := by simpa using hj
      exact ⟨_, rfl, some ⟨wr.heap.size, 0, none⟩, cp, rfl, hlb, hub, ((string_sl wr x cp 5 fr).mono fun b hb _ => .inl hb).alloc _⟩⟩
    (fun k hk => ⟨by simp; omega, fun hF => by have := hlt k hF; omega⟩)
    (by have := bytes_size x; simp [rowsLen]; omega)
  refine h2.mono fun e w' ⟨he, hx⟩ => ⟨he, ?_⟩
  obtain ⟨F2, h1, h2, h3⟩ := hx
  have hfr : Fr F wr ((wr.alloc (.cells (bytesRow x cp) 5 fr)).alloc (.cells #[.slice (some ⟨wr.heap.size, 0, none⟩) x.size cp] 22)).drew := (((Fr.refl F wr).alloc _).alloc _).drew
  exact ⟨F2, h1, hfr.tr h2, fun k hk => (h3 k hk).imp id fun h => Nat.le_trans hfr.size h⟩

theorem texts_any (w : World) (F F2 : Nat → Prop) (g : Nat) (s : Wr) (h : IsWr w F g s) (A2 : Option Addr) (c : Nat) (ns : List ByteArray) (hsl : Sl w F2 A2 (ns.map Value.string)) (hd : Apart w F2 F)
    (hsz : s.bs.length + 9 * ns.length + rowsLen (ns.map (·.data.toList)) ≤ 800000000000) :
    Calls Tryz.prog 42 #[.pointer (some ⟨g, 0, none⟩), .slice A2 ns.length c] w fun e w' => e = .returned (.pointer (some ⟨g, 0, none⟩)) ∧ WrTo w F g (wrRows (ns.map (·.data.toList)) s) w' := by
  have hconv := fun (w : World) (s : ByteArray) => run_bytes_of_string (P := Tryz.prog) w 9 22 5 s Tryz.underlying9 Tryz.underlying22 Tryz.underlying5
  go_enter Tryz.func42, Tryz.ntmps42
  go_wp2_with (go_at_call 94; refine (wknown_yes _ _ _ _ h).mono ?_; rintro e w' ⟨rfl, rfl⟩)
  go_loopw [6, 11] (fun _ i wr => WrLoop w F g (fun k => wrRows ((ns.map (·.data.toList)).take k) s) ns.length i wr) (fun _ i _ => ns.length - (intOf i).toNat)
  case atStart => exact ⟨0, rfl, Nat.zero_le _, WrTo.refl h⟩
  case round =>
    obtain ⟨k, rfl, hk, F', hw, hf, hF⟩ := hrel
    by_cases hlt : k < ns.length
    · have hlt' : k < (ns.map (·.data.toList)).length := by simpa using hlt
      have hlen := wrRows_len ((ns.map (·.data.toList)).take k) s
      rw [List.length_take, List.length_map] at hlen
      have hle := rowsLen_get _ k hlt'
      have hx : (ns.map (·.data.toList))[k] = ns[k].data.toList := by simp
      rw [hx] at hle
      have hsucc := wrRows_succ _ k hlt' s
      rw [hx] at hsucc
      have HS := Lib.hid hsucc
      clear hsucc hx
      obtain ⟨b, o, rfl, hFb, hc⟩ := (hsl.fr hf hd.no).get hlt
      have hb1 : (wrRows ((ns.map (·.data.toList)).take k) s).bs.length + 9 * 1 + ns[k].data.toList.length ≤ 800000000000 := by omega
      clear hlen hle
      go_wp2_with fail
      generalize hcap : grownCap wr ns[k].size 0 5 = cp
      have hlb : ns[k].size ≤ cp := hcap ▸ grownCap_ge _ _ _ _
      have hub : cp ≤ maxLen := hcap ▸ grownCap_le_maxLen _ _ _ _ (by unfold maxLen; have := bytes_size ns[k]; omega)
      refine (rows_text wr F' g _ hw ns[k] cp _ hlb hub (by have := bytes_size ns[k]; omega)).mono ?_
      rintro e w3 ⟨rfl, h3⟩
      go_wp2_with fail
      go_roundw
      case rel =>
        refine ⟨k + 1, by go_num, by omega, ?_⟩
        show WrTo w F g (wrRows ((ns.map (·.data.toList)).take (k + 1)) s) w3
        rw [HS.out]
        exact WrTo.trans hf hF h3
      case measure => simp [intOf]; omega
    · go_wp2_with fail
      go_ret
      refine ⟨rfl, ?_⟩
      have e : (ns.map (·.data.toList)).take k = (ns.map (·.data.toList)) := List.take_of_length_le (by simp; omega)
      rw [e] at hw
      exact ⟨F', hw, hf, hF⟩

/-- 'slices.Clone' of bytes. -/
theorem clone_u8 (w : World) (F : Nat → Prop) (A : Option Addr) (c : Nat) (bs : List UInt8) (hs : Sl w F A (bs.map B8)) (hsz : bs.length ≤ 1000000000000) :
    Calls Tryz.prog 97 #[.slice A bs.length c] w fun e w' => ∃ A' c', e = .returned (.slice A' bs.length c') ∧ Own w' 5 1 A' bs.length c' (bs.map B8) ∧ Fr (fun _ => False) w w' ∧ ∀ k, inA A' k → w.heap.size ≤ k := by
  have hnil := fun (w : World) (A : Option Addr) (n : Nat) => Lib.run_eql_slice_nil (P := Tryz.prog) w 22 5 A n c 0 0 Tryz.underlying22
  cases A with
  | none =>
    have hb : bs = [] := by
      rcases hs with h | ⟨b, o, h, _⟩
      · simpa using h
      · cases h
    subst hb
    go_enter Tryz.func97, Tryz.ntmps97
    go_wp2_with fail
    go_ret
    exact ⟨none, 0, rfl, Own.nil _ _ _, Fr.refl _ _, fun k hk => (inA_none k hk).elim⟩
  | some a =>
    go_enter Tryz.func97, Tryz.ntmps97
    go_wp2_with (at_builtin; refine wl_append rfl _ _ _ rfl 1 (.int .u8 0) Tryz.underlying22 info_u8 rfl (by decide) rfl (Own.new w 5 1 0 0 #[] (Nat.le_refl _) (by decide) rfl) rfl (hs.alloc _) (by simp) (B8_oneCell bs) (by omega) (by unfold maxLen; omega) ?_; intro A' cap' w1 ho hf hin)
    go_ret
    simp only [Nat.zero_add, Nat.zero_mul, List.take_zero, List.nil_append] at ho
    refine ⟨A', cap', rfl, ho, ((Fr.refl _ w).alloc _).trans hf fun k hk => .inr ?_, fun k hk => ?_⟩
    · rw [(inA_some _ _).1 hk]; exact Nat.le_refl _
    · rcases hin k hk with h | h
      · rw [(inA_some _ _).1 h]; exact Nat.le_refl _
      · rw [h]; simp

theorem done_ok (w : World) (F : Nat → Prop) (g : Nat) (s : Wr) (h : IsWr w F g s) (hok : s.ok = true) (hsz : s.bs.length ≤ 1000000000000) :
    Calls Tryz.prog 44 #[.pointer (some ⟨g, 0, none⟩)] w fun e w' => ∃ A' c', e = .returned (.tuple #[.slice A' s.bs.length c', .int .i64 0]) ∧ Own w' 5 1 A' s.bs.length c' (s.bs.map B8) ∧ Fr (fun _ => False) w w' ∧ ∀ k, inA A' k → w.heap.size ≤ k := by
  have h' := h
  obtain ⟨A, cap, hb, hown, hF, hFA, hFlt⟩ := h'
  have c1 := hb.cell 1
  have c2 := hb.cell 2
  simp [hok] at c1 c2
  have HK := Lib.hid hok
  clear hok
  go_enter Tryz.func44, Tryz.ntmps44
  go_wp2_with (first | (go_at_call 94; refine (wknown_yes _ _ _ _ h).mono ?_; rintro e w' ⟨rfl, rfl⟩) | (go_at_call 97; refine (clone_u8 _ _ _ _ _ hown.sl hsz).mono ?_; rintro e w1 ⟨A', c', rfl, ho, hf, hn⟩))
  go_ret2
  exact ⟨A', c', rfl, ho, hf, hn⟩

end Go.Proofs.YtkjnlhidnkbelaaGreatDoor

namespace Go.Proofs.YtkjnlhidnkbelaaGreatDoor
open Go Go.RowKit

/-- g is not of F, and F is bounded. -/
def OutF (w : World) (F : Nat → Prop) (g : Nat) : Prop := ¬ F g ∧ ∀ k, F k → k < w.heap.size
theorem OutF.fr {w w' : World} {F : Nat → Prop} {g : Nat} (h : OutF w F g) (hs : w.heap.size ≤ w'.heap.size) : OutF w' F g := ⟨h.1, fun k hk => Nat.lt_of_lt_of_le (h.2 k hk) hs⟩

/-- Block g is a reader of these bytes, which lie in F; none: it has failed. -/
def IsRd (w : World) (F : Nat → Prop) (g : Nat) : Rd → Prop
  | none => Blk w g 185 #[.bool true, .bool true, .slice none 0 0] ∧ OutF w F g
  | some bs => ∃ A cap, Blk w g 185 #[.bool true, .bool false, .slice A bs.length cap] ∧ bs.length ≤ cap ∧ cap ≤ maxLen ∧ Sl w F A (bs.map B8) ∧ OutF w F g

theorem IsRd.fr {w w' : World} {F S : Nat → Prop} {g : Nat} {s : Rd} (h : IsRd w F g s) (hf : Fr S w w') (hg : ¬ S g) (hd : ∀ k, F k → ¬ S k) : IsRd w' F g s := by
  cases s with
  | none => exact ⟨h.1.fr hf hg, h.2.fr hf.size⟩
  | some bs =>
    obtain ⟨A, cap, hb, h1, h2, h3, h4⟩ := h
    exact ⟨A, cap, hb.fr hf hg, h1, h2, h3.fr hf hd, h4.fr hf.size⟩

def RdTo (w : World) (F : Nat → Prop) (g : Nat) (s : Rd) (w' : World) : Prop := IsRd w' F g s ∧ Fr (· = g) w w'
theorem RdTo.trans {w w1 w2 : World} {F : Nat → Prop} {g : Nat} {s1 s2 : Rd} (h : RdTo w F g s1 w1) (k : RdTo w1 F g s2 w2) : RdTo w F g s2 w2 := ⟨k.1, h.2.tr k.2⟩
theorem RdTo.refl {w : World} {F : Nat → Prop} {g : Nat} {s : Rd} (h : IsRd w F g s) : RdTo w F g s w := ⟨h, Fr.refl _ _⟩

theorem fail_any (w : World) (F : Nat → Prop) (g : Nat) (s : Rd) (h : IsRd w F g s) :
    Calls Tryz.prog 106 #[.pointer (some ⟨g, 0, none⟩)] w fun e w' => e = .returned (.tuple #[]) ∧ RdTo w F g none w' := by
  have hh : ∃ f v, Blk w g 185 #[.bool true, f, v] ∧ OutF w F g := by
    cases s with
    | none => exact ⟨_, _, h⟩
    | some bs => obtain ⟨A, cap, hb, _, _, _, hg⟩ := h; exact ⟨_, _, hb, hg⟩
  obtain ⟨f, v, hb, hg⟩ := hh
  have c1 := hb.cell 1
  have c2 := hb.cell 2
  have f1 := hb.frozen 1
  have f2 := hb.frozen 2
  simp at c1 c2
  go_enter Tryz.func106, Tryz.ntmps106
  go_wp2
  go_end0
  refine ⟨rfl, ⟨?_, hg.fr (by simp [World.setCell])⟩, ((Fr.refl (· = g) w).setCell (p := ⟨g, 1, none⟩) (.inl rfl) _).setCell (p := ⟨g, 2, none⟩) (.inl rfl) _⟩
  have := (hb.set_ 1 (.bool true)).set_ 2 (.slice none 0 0)
  simpa using this

/-- What 'take' leaves. -/
def TakeTo (w : World) (F : Nat → Prop) (g n : Nat) (bs : List UInt8) (e : Ending) (w' : World) : Prop :=
  if bs.length < n then e = .returned (.slice none 0 0) ∧ RdTo w F g none w'
  else ∃ A', e = .returned (.slice A' n n) ∧ RdTo w F g (some (bs.drop n)) w' ∧ Sl w' F A' ((bs.take n).map B8)

theorem take_any (w : World) (F : Nat → Prop) (g : Nat) (bs : List UInt8) (h : IsRd w F g (some bs)) (n : Nat) :
    Calls Tryz.prog 105 #[.pointer (some ⟨g, 0, none⟩), .int .i64 n] w (TakeTo w F g n bs) := by
  have h' := h
  obtain ⟨A, cap, hb, h1, h2, h3, h4⟩ := h'
  have c2 := hb.cell 2
  have f2 := hb.frozen 2
  simp at c2
  unfold maxLen at h2
  by_cases hn : bs.length < n
  · have hp : ∀ e w', (e = .returned (.slice none 0 0) ∧ RdTo w F g none w') → TakeTo w F g n bs e w' := fun e w' h => by unfold TakeTo; rw [if_pos hn]; exact h
    refine Calls.mono ?_ hp
    go_enter Tryz.func105, Tryz.ntmps105
    go_wp2_with (go_at_call 106; refine (fail_any _ _ _ _ h).mono ?_; rintro e w1 ⟨rfl, hr⟩)
    go_ret
    exact ⟨rfl, hr⟩
  · have hn1 : n ≤ bs.length := by omega
    have hn2 : n ≤ cap := by omega
    have s1 := slice_hm (P := Tryz.prog) 22 under_bytes 1 size_bytes A bs.length cap n n (Nat.le_refl _) hn2
    have s2 := slice_l (P := Tryz.prog) 22 under_bytes 1 size_bytes A bs.length cap n hn1
    go_enter Tryz.func105, Tryz.ntmps105
    go_wp2_with fail
    go_ret
    unfold TakeTo
    rw [if_neg hn]
    refine ⟨_, rfl, ⟨⟨cutA A cap n 1, cap - n, ?_, ?_, ?_, ?_, h4.fr (by simp [World.setCell])⟩, (Fr.refl (· = g) w).setCell (p := ⟨g, 2, none⟩) (.inl rfl) _⟩, ?_⟩
    · have := hb.set_ 2 (.slice (cutA A cap n 1) (bs.length - n) (cap - n))
      simpa using this
    · simp; omega
    · unfold maxLen; omega
    · have := (h3.drop (n := bs.length) (m := cap) (s := 1) (l := n) (by simp) h1 hn1).setCell (p := ⟨g, 2, none⟩) h4.1 (.slice (cutA A cap n 1) (bs.length - n) (cap - n))
      simpa [List.map_drop] using this
    · have := (h3.pre (k := n)).setCell (p := ⟨g, 2, none⟩) h4.1 (.slice (cutA A cap n 1) (bs.length - n) (cap - n))
      rw [← List.map_take] at this
      simpa using this
theorem IsRd.out {w : World} {F : Nat → Prop} {g : Nat} {s : Rd} (h : IsRd w F g s) : OutF w F g := by
  cases s with
  | none => exact h.2
  | some bs => obtain ⟨_, _, _, _, _, _, h⟩ := h; exact h
theorem IsRd.lt {w : World} {F : Nat → Prop} {g : Nat} {s : Rd} (h : IsRd w F g s) : g < w.heap.size := by
  cases s with
  | none => exact h.1.lt
  | some bs => obtain ⟨_, _, hb, _⟩ := h; exact hb.lt
end Go.Proofs.YtkjnlhidnkbelaaGreatDoor

namespace Go.Proofs.YtkjnlhidnkbelaaGreatDoor
open Go Go.RowKit

theorem ron_any (w : World) (F : Nat → Prop) (g : Nat) (s : Rd) (h : IsRd w F g s) :
    Calls Tryz.prog 104 #[.pointer (some ⟨g, 0, none⟩)] w fun e w' => e = .returned (.bool s.isSome) ∧ w = w' := by
  cases s with
  | none =>
    have c0 := h.1.cell 0
    have c1 := h.1.cell 1
    simp at c0 c1
    go_enter Tryz.func104, Tryz.ntmps104
    go_wp2
    go_ret
    exact ⟨rfl, rfl⟩
  | some bs =>
    obtain ⟨A, cap, hb, _⟩ := h
    have c0 := hb.cell 0
    have c1 := hb.cell 1
    simp at c0 c1
    go_enter Tryz.func104, Tryz.ntmps104
    go_wp2
    go_ret
    exact ⟨rfl, rfl⟩

def NumLoop (w : World) (F : Nat → Prop) (g : Nat) (bs : List UInt8) (n i : Value) (wr : World) : Prop :=
  ∃ (k acc : Nat) (rest : List UInt8), n = .int .i64 acc ∧ i = .int .i64 (7 * k : Nat) ∧ NumAt bs k acc rest ∧ RdTo w F g (some rest) wr

theorem take_one (w : World) (F : Nat → Prop) (g : Nat) (b : UInt8) (r : List UInt8) (h : IsRd w F g (some (b :: r))) :
    Calls Tryz.prog 105 #[.pointer (some ⟨g, 0, none⟩), .int .i64 1] w fun e w' => ∃ b' o, e = .returned (.slice (some ⟨b', o, none⟩) 1 1) ∧ w'.cell? ⟨b', o, none⟩ = some (B8 b) ∧ RdTo w F g (some r) w' := by
  refine (take_any w F g _ h 1).mono fun e w' hh => ?_
  unfold TakeTo at hh
  rw [if_neg (by simp)] at hh
  obtain ⟨A', rfl, h1, h2⟩ := hh
  obtain ⟨b', o, rfl, _, hc⟩ := h2.get (k := 0) (by simp)
  exact ⟨b', o, rfl, by simpa using hc, by simpa using h1⟩
theorem take_none (w : World) (F : Nat → Prop) (g : Nat) (h : IsRd w F g (some [])) :
    Calls Tryz.prog 105 #[.pointer (some ⟨g, 0, none⟩), .int .i64 1] w fun e w' => e = .returned (.slice none 0 0) ∧ RdTo w F g none w' := by
  refine (take_any w F g _ h 1).mono fun e w' hh => ?_
  unfold TakeTo at hh
  rwa [if_pos (by simp)] at hh

set_option maxRecDepth 100000 in
set_option maxHeartbeats 1000000 in
theorem rdnumber_some (w : World) (F : Nat → Prop) (g : Nat) (bs : List UInt8) (h : IsRd w F g (some bs)) (most : Int) :
    Calls Tryz.prog 58 #[.pointer (some ⟨g, 0, none⟩), .int .i64 most] w fun e w' => e = .returned (.int .i64 (rdNum most (some bs)).1) ∧ RdTo w F g (rdNum most (some bs)).2 w' := by
  go_enter Tryz.func58, Tryz.ntmps58
  go_wp2_with (go_at_call 104; refine (ron_any _ _ _ _ h).mono ?_; rintro e w' ⟨rfl, rfl⟩)
  go_loopw [5, 6, 7] (fun n i _ wr => NumLoop w F g bs n i wr) (fun _ i _ _ => 63 - (intOf i).toNat)
  case atStart => exact ⟨0, 0, bs, rfl, rfl, NumAt.start bs, RdTo.refl h⟩
  case round =>
    obtain ⟨k, acc, rest, rfl, rfl, hN, hr⟩ := hrel
    by_cases hk : k < 9
    · cases rest with
      | nil =>
        go_wp2_with fail
        refine (take_none _ _ _ hr.1).mono ?_
        rintro e w1 ⟨rfl, h1⟩
        have c1 := h1.1.1.cell 1
        simp at c1
        go_wp2_with fail
        go_ret
        rw [rdNum_none most hN.none_]
        exact ⟨rfl, hr.trans h1⟩
      | cons b r =>
        have hNB := numByte k acc b hk hN.lt
        obtain ⟨v, hv⟩ : ∃ v : Nat, v = acc + 128 ^ k * (b.toNat % 128) := ⟨_, rfl⟩
        rw [← hv] at hNB
        have HV := Lib.hid hv
        clear hv
        have hb256 : b.toNat < 256 := b.toNat_lt
        go_wp2_with fail
        refine (take_one _ _ _ _ _ hr.1).mono ?_
        rintro e w1 ⟨b', o, rfl, hc, h1⟩
        obtain ⟨A, cap, hb, _⟩ := id h1.1
        have c1 := hb.cell 1
        simp at c1
        by_cases hlt : b.toNat < 128
        · have hlast := Lib.hid (hN.last hk hlt)
          by_cases h0 : 0 < k ∧ b.toNat = 0
          · have hd : rdNum most (some bs) = (0, none) := by
              have := hlast.out
              rw [if_pos h0] at this
              exact rdNum_none most this
            have HD := Lib.hid hd
            clear hd
            obtain ⟨h01, h02⟩ := h0
            go_wp2_with (go_at_call 106; refine (fail_any _ _ _ _ h1.1).mono ?_; rintro e w2 ⟨rfl, h2⟩)
            go_ret
            rw [HD.out]
            exact ⟨rfl, hr.trans (h1.trans h2)⟩
          · have hv2 : acc + 128 ^ k * b.toNat = v := by
              have := HV.out
              rw [Nat.mod_eq_of_lt hlt] at this
              exact this.symm
            have hl2 := hlast.out
            rw [if_neg h0, hv2] at hl2
            have HL2 := Lib.hid hl2
            clear hl2 hv2 hlast
            have h0' := Lib.hid h0
            clear h0
            by_cases ht : 4611686018427387903 < (v : Int) ∨ ((v : Int) ≤ 4611686018427387903 ∧ most < (v : Int))
            · have hd : rdNum most (some bs) = (0, none) := by
                have := HL2.out
                by_cases ht1 : topN < v
                · rw [if_pos ht1] at this
                  exact rdNum_none most this
                · rw [if_neg ht1] at this
                  exact rdNum_big most this (by unfold topN at ht1; omega)
              have HD := Lib.hid hd
              clear hd
              have hq : (¬ ((0 : Int) < 7 * (k : Int)) ∨ (0 < k ∧ ((b.toNat : Int) == 0) = false)) := by
                have h9 := h0'.out
                by_cases hz : 0 < k
                · exact .inr ⟨hz, beq_eq_false_iff_ne.2 (by omega)⟩
                · exact .inl (by omega)
              rcases hq with hkf | ⟨hk0, hb0⟩ <;> rcases ht with ht | ⟨ht0, ht⟩
              all_goals
                go_wp2_with (go_at_call 106; refine (fail_any _ _ _ _ h1.1).mono ?_; rintro e w2 ⟨rfl, h2⟩)
                go_ret
                rw [HD.out]
                exact ⟨rfl, hr.trans (h1.trans h2)⟩
            · have hd : rdNum most (some bs) = ((v : Int), some r) := by
                have := HL2.out
                rw [if_neg (by unfold topN; omega)] at this
                exact rdNum_ok most this (by omega)
              have HD := Lib.hid hd
              clear hd
              have ht1 : (v : Int) ≤ 4611686018427387903 := by omega
              have ht2 : (v : Int) ≤ most := by omega
              clear ht
              have hq : (¬ ((0 : Int) < 7 * (k : Int)) ∨ (0 < k ∧ ((b.toNat : Int) == 0) = false)) := by
                have h9 := h0'.out
                by_cases hz : 0 < k
                · exact .inr ⟨hz, beq_eq_false_iff_ne.2 (by omega)⟩
                · exact .inl (by omega)
              rcases hq with hkf | ⟨hk0, hb0⟩
              all_goals
                go_wp2_with fail
                go_ret
                rw [HD.out]
                exact ⟨rfl, hr.trans h1⟩
        · have hb128 : 128 ≤ b.toNat := by omega
          have hnext := hN.next hk hb128
          have hvb : acc + 128 ^ k * (b.toNat - 128) = v := by
            have := HV.out
            rw [this]
            congr 2
            omega
          rw [hvb] at hnext
          clear hvb
          go_wp2_with fail
          go_roundw
          case rel => exact ⟨k + 1, v, r, rfl, by go_num, hnext, hr.trans h1⟩
          case measure => simp [intOf]; omega
    · have hk9 : k = 9 := by have := hN.le; omega
      subst hk9
      go_wp2_with (go_at_call 106; refine (fail_any _ _ _ _ hr.1).mono ?_; rintro e w2 ⟨rfl, h2⟩)
      go_ret
      rw [rdNum_none most hN.far]
      exact ⟨rfl, hr.trans h2⟩
end Go.Proofs.YtkjnlhidnkbelaaGreatDoor

namespace Go.Proofs.YtkjnlhidnkbelaaGreatDoor
open Go Go.RowKit

theorem rdnumber_any (w : World) (F : Nat → Prop) (g : Nat) (s : Rd) (h : IsRd w F g s) (most : Int) :
    Calls Tryz.prog 58 #[.pointer (some ⟨g, 0, none⟩), .int .i64 most] w fun e w' => e = .returned (.int .i64 (rdNum most s).1) ∧ RdTo w F g (rdNum most s).2 w' := by
  cases s with
  | some bs => exact rdnumber_some w F g bs h most
  | none =>
    go_enter Tryz.func58, Tryz.ntmps58
    go_wp2_with (go_at_call 104; refine (ron_any _ _ _ _ h).mono ?_; rintro e w' ⟨rfl, rfl⟩)
    go_ret
    exact ⟨rfl, RdTo.refl h⟩

theorem rdflag_any (w : World) (F : Nat → Prop) (g : Nat) (s : Rd) (h : IsRd w F g s) :
    Calls Tryz.prog 61 #[.pointer (some ⟨g, 0, none⟩)] w fun e w' => e = .returned (.bool (rdFlag s).1) ∧ RdTo w F g (rdFlag s).2 w' := by
  cases s with
  | none =>
    go_enter Tryz.func61, Tryz.ntmps61
    go_wp2_with (go_at_call 104; refine (ron_any _ _ _ _ h).mono ?_; rintro e w' ⟨rfl, rfl⟩)
    go_ret
    exact ⟨rfl, RdTo.refl h⟩
  | some bs =>
    cases bs with
    | nil =>
      go_enter Tryz.func61, Tryz.ntmps61
      go_wp2_with (go_at_call 104; refine (ron_any _ _ _ _ h).mono ?_; rintro e w' ⟨rfl, rfl⟩)
      refine (take_none _ _ _ h).mono ?_
      rintro e w1 ⟨rfl, h1⟩
      have c1 := h1.1.1.cell 1
      simp at c1
      go_wp2_with (go_at_call 106; refine (fail_any _ _ _ _ h1.1).mono ?_; rintro e w2 ⟨rfl, h2⟩)
      go_ret
      exact ⟨rfl, h1.trans h2⟩
    | cons b r =>
      have hb256 : b.toNat < 256 := b.toNat_lt
      by_cases hb : 1 < b.toNat
      · have HD := Lib.hid (show rdFlag (some (b :: r)) = (false, none) by simp [rdFlag, hb])
        go_enter Tryz.func61, Tryz.ntmps61
        go_wp2_with (go_at_call 104; refine (ron_any _ _ _ _ h).mono ?_; rintro e w' ⟨rfl, rfl⟩)
        refine (take_one _ _ _ _ _ h).mono ?_
        rintro e w1 ⟨b', o, rfl, hc, h1⟩
        obtain ⟨A, cap, hb, _⟩ := id h1.1
        have c1 := hb.cell 1
        simp at c1
        go_wp2_with (go_at_call 106; refine (fail_any _ _ _ _ h1.1).mono ?_; rintro e w2 ⟨rfl, h2⟩)
        go_ret
        rw [HD.out]
        exact ⟨rfl, h1.trans h2⟩
      · have HD := Lib.hid (show rdFlag (some (b :: r)) = (((b.toNat : Int) == 1), some r) by simp [rdFlag, hb])
        go_enter Tryz.func61, Tryz.ntmps61
        go_wp2_with (go_at_call 104; refine (ron_any _ _ _ _ h).mono ?_; rintro e w' ⟨rfl, rfl⟩)
        refine (take_one _ _ _ _ _ h).mono ?_
        rintro e w1 ⟨b', o, rfl, hc, h1⟩
        obtain ⟨A, cap, hb, _⟩ := id h1.1
        have c1 := hb.cell 1
        simp at c1
        go_wp2_with fail
        go_ret
        rw [HD.out]
        exact ⟨rfl, h1⟩

theorem newReader_any (w : World) (F : Nat → Prop) (A : Option Addr) (c : Nat) (bs : List UInt8) (hs : Sl w F A (bs.map B8)) (hsz : bs.length ≤ 1000000000000) :
    Calls Tryz.prog 57 #[.slice A bs.length c] w fun e w' => ∃ g F', e = .returned (.pointer (some ⟨g, 0, none⟩)) ∧ IsRd w' F' g (some bs) ∧ Fr (fun _ => False) w w' ∧ w.heap.size ≤ g ∧ ∀ k, F' k → w.heap.size ≤ k := by
  go_enter Tryz.func57, Tryz.ntmps57
  go_wp2_with (go_at_call 97; refine (clone_u8 _ _ _ _ _ hs hsz).mono ?_; rintro e w1 ⟨A', c', rfl, ho, hf, hn⟩)
  go_ret
  refine ⟨w1.heap.size, inA A', rfl, ⟨A', c', Blk.new _ _ _, ho.cap_le.1, ho.cap_le.2, ho.sl.alloc _, fun h => by have := ho.lt _ h; omega, fun k hk => by have := ho.lt k hk; simp; omega⟩, hf.alloc _, hf.size, hn⟩

theorem rdrow_any (w : World) (F : Nat → Prop) (g : Nat) (s : Rd) (h : IsRd w F g s) (most : Int) (hsz : rdLeft s ≤ 1000000000000) :
    Calls Tryz.prog 64 #[.pointer (some ⟨g, 0, none⟩), .int .i64 most] w fun e w' => ∃ A c, e = .returned (.slice A (rdRow most s).1.length c) ∧ Own w' 5 1 A (rdRow most s).1.length c ((rdRow most s).1.map B8) ∧ RdTo w F g (rdRow most s).2 w' ∧ ∀ k, inA A k → w.heap.size ≤ k := by
  rcases rdNum_cases most s with hn | ⟨bs, m, r, rfl, hn, hm, _, hbs⟩
  · have HD := Lib.hid (rdRow_none hn)
    have hcon := rdnumber_any _ _ _ _ h most
    rw [hn] at hcon
    clear hn
    go_enter Tryz.func64, Tryz.ntmps64
    go_wp2_with (first | (go_at_call 58; refine hcon.mono ?_; rintro e w1 ⟨rfl, h1⟩) | (go_at_call 104; refine (ron_any _ _ _ _ h1.1).mono ?_; rintro e w' ⟨rfl, rfl⟩))
    go_ret
    rw [HD.out]
    exact ⟨none, 0, rfl, Own.nil _ _ _, h1, fun k hk => (inA_none k hk).elim⟩
  · have HD := Lib.hid (rdRow_some hn)
    have hcon := rdnumber_any _ _ _ _ h most
    rw [hn] at hcon
    have hrl : r.length ≤ 1000000000000 := by
      have : rdLeft (some bs) = bs.length := rfl
      rw [this, hbs, List.length_append] at hsz
      omega
    clear hn hbs
    unfold topN at hm
    by_cases hlt : r.length < m
    · go_enter Tryz.func64, Tryz.ntmps64
      go_wp2_with fail
      refine hcon.mono ?_
      rintro e w1 ⟨rfl, h1⟩
      go_wp2_with (go_at_call 104; refine (ron_any _ _ _ _ h1.1).mono ?_; rintro e w' ⟨rfl, rfl⟩)
      refine (take_any _ _ _ _ h1.1 m).mono ?_
      intro e w2 hh
      unfold TakeTo at hh
      rw [if_pos hlt] at hh
      obtain ⟨rfl, h2⟩ := hh
      go_wp2_with (go_at_call 97; refine (clone_u8 _ (fun _ => False) none 0 [] (.inl rfl) (by decide)).mono ?_; rintro e w3 ⟨A', c', rfl, ho, hf, hfresh⟩)
      go_ret
      rw [HD.out, if_pos hlt]
      exact ⟨A', c', rfl, ho, ⟨h2.1.fr hf (fun h => h) (fun _ _ h => h), h1.2.tr (h2.2.tr (hf.mono fun _ h => h.elim))⟩, fun k hk => Nat.le_trans (Nat.le_trans h1.2.size h2.2.size) (hfresh k hk)⟩
    · go_enter Tryz.func64, Tryz.ntmps64
      go_wp2_with fail
      refine hcon.mono ?_
      rintro e w1 ⟨rfl, h1⟩
      go_wp2_with (go_at_call 104; refine (ron_any _ _ _ _ h1.1).mono ?_; rintro e w' ⟨rfl, rfl⟩)
      refine (take_any _ _ _ _ h1.1 m).mono ?_
      intro e w2 hh
      unfold TakeTo at hh
      rw [if_neg hlt] at hh
      obtain ⟨A2, rfl, h2, h3⟩ := hh
      have htl : (r.take m).length = m := by rw [List.length_take]; omega
      have hcl := clone_u8 w2 F A2 m (r.take m) h3 (by omega)
      rw [htl] at hcl
      have HT := Lib.hid htl
      clear htl
      go_wp2_with (go_at_call 97; refine hcl.mono ?_; rintro e w3 ⟨A', c', rfl, ho, hf, hfresh⟩)
      go_ret
      rw [HD.out, if_neg hlt]
      simp only [HT.out]
      exact ⟨A', c', rfl, ho, ⟨h2.1.fr hf (fun h => h) (fun _ _ h => h), h1.2.tr (h2.2.tr (hf.mono fun _ h => h.elim))⟩, fun k hk => Nat.le_trans (Nat.le_trans h1.2.size h2.2.size) (hfresh k hk)⟩
end Go.Proofs.YtkjnlhidnkbelaaGreatDoor

/- The program's reader: texts, what is left, the end. -/
namespace Go.Proofs.YtkjnlhidnkbelaaGreatDoor
open Go Go.RowKit

/-- 'string(b)'. -/
theorem run_text_sl (w : World) (F : Nat → Prop) (A : Option Addr) (c : Nat) (bs : List UInt8) (h : Sl w F A (bs.map B8)) :
    (convert 22 9 (.slice A bs.length c)).run Tryz.prog w = .ok (.string ⟨bs.toArray⟩) w := by
  cases A with
  | none =>
    have hb : bs = [] := by
      rcases h with h | ⟨b, o, h, _⟩
      · simpa using h
      · cases h
    subst hb
    exact run_convert_bytes_nil w 22 5 Tryz.underlying22 Tryz.underlying5 0 c 9 Tryz.underlying9
  | some a =>
    rw [run_convert_bytes_string w 22 9 5 _ _ c Tryz.underlying22 Tryz.underlying5 Tryz.underlying9]
    have hl : (loadCells a bs.length).run Tryz.prog w = .ok ((bs.map fun b => (b.toNat : Int)).map (Value.int .u8)).toArray w := by
      have := run_loadCells_list (P := Tryz.prog) w a (bs.map B8) (fun j v hj => by
        rcases h with h | ⟨b, o, h, _, _, hc⟩
        · rw [h] at hj; simp at hj
        · injection h with h
          subst h
          rw [Addr.add_lit]
          exact hc j v hj)
      rw [List.length_map] at this
      rw [this, List.map_map]
      rfl
    rw [run_bytesToString w a bs.length c _ hl, foldl_push_bytes]
    congr 2
    simp [ByteArray.empty, ByteArray.emptyWithCapacity]
    show List.map ((fun n : Int => UInt8.ofNat n.toNat) ∘ fun b : UInt8 => (b.toNat : Int)) bs = bs
    rw [show ((fun n : Int => UInt8.ofNat n.toNat) ∘ fun b : UInt8 => (b.toNat : Int)) = id from funext fun b => by simp]
    simp

theorem rdtext_any (w : World) (F : Nat → Prop) (g : Nat) (s : Rd) (h : IsRd w F g s) (most : Int) (hsz : rdLeft s ≤ 1000000000000) :
    Calls Tryz.prog 63 #[.pointer (some ⟨g, 0, none⟩), .int .i64 most] w fun e w' => e = .returned (.string ⟨(rdRow most s).1.toArray⟩) ∧ RdTo w F g (rdRow most s).2 w' := by
  obtain ⟨bs, s1, hrow⟩ : ∃ bs s1, rdRow most s = (bs, s1) := ⟨_, _, rfl⟩
  have hcon := rdrow_any w F g s h most hsz
  rw [hrow] at hcon ⊢
  clear hrow
  go_enter Tryz.func63, Tryz.ntmps63
  go_wp2_with (go_at_call 64; refine hcon.mono ?_; rintro e w1 ⟨A, c, rfl, ho, h1, _⟩; have hconv := run_text_sl w1 _ _ c _ ho.sl)
  go_ret
  exact ⟨rfl, h1⟩

/-? wire_Reader_Left -/
theorem rdend_any (w : World) (F : Nat → Prop) (g : Nat) (s : Rd) (h : IsRd w F g s) :
    Calls Tryz.prog 66 #[.pointer (some ⟨g, 0, none⟩)] w fun e w' => e = .returned (.int .i64 (rdEnd s)) ∧ w = w' := by
  cases s with
  | none =>
    have c0 := h.1.cell 0
    have c1 := h.1.cell 1
    simp at c0 c1
    go_enter Tryz.func66, Tryz.ntmps66
    go_wp2
    go_ret
    exact ⟨rfl, rfl⟩
  | some bs =>
    obtain ⟨A, cap, hb, _⟩ := id h
    have c0 := hb.cell 0
    have c1 := hb.cell 1
    have c2 := hb.cell 2
    simp at c0 c1 c2
    cases bs with
    | nil =>
      go_enter Tryz.func66, Tryz.ntmps66
      go_wp2
      go_ret
      exact ⟨rfl, rfl⟩
    | cons b r =>
      have hpos : (0 : Int) < (((b :: r).length : Nat) : Int) := by simp
      go_enter Tryz.func66, Tryz.ntmps66
      go_wp2
      go_ret
      exact ⟨rfl, rfl⟩
end Go.Proofs.YtkjnlhidnkbelaaGreatDoor
/- Reads read: how much is left; sizes. -/
namespace Go.Proofs.YtkjnlhidnkbelaaGreatDoor
open Go Go.RowKit

theorem rdRdg_left (s : Rd) : rdLeft (rdRdg s).2 ≤ rdLeft s := Nat.le_trans (rdRow_left 20 _) (Nat.le_trans (rdFlag_left _) (rdRow_left 20 s))
theorem rdRdgs_left (k : Nat) (s : Rd) : rdLeft (rdRdgs k s).2 ≤ rdLeft s := by
  induction k with
  | zero => exact Nat.le_refl _
  | succ k ih => exact Nat.le_trans (rdRdg_left _) ih
theorem rd_size : (Tryz.prog.info? 93).map (·.size) = some 3 := by kernel_rfl
theorem rd_app {W w6 : World} {A A6 : Option Addr} {k c c6 : Nat} {cs : List Value} {news : List Value} (h : AppTo W 93 3 A k c 1 cs news A6 c6 w6) :
    Own w6 93 3 A6 (k + 1) c6 (cs ++ news) ∧ Fr (inA A) W w6 ∧ ∀ j, inA A6 j → inA A j ∨ W.heap.size ≤ j := by
  obtain ⟨h1, _, h3⟩ := h
  refine ⟨h1, ?_, ?_⟩
  · rcases h3 with ⟨_, _, _, hf⟩ | ⟨_, _, hf⟩
    · exact hf
    · exact Nw.on hf
  · intro j hj
    rcases h3 with ⟨_, rfl, _, _⟩ | ⟨_, rfl, _⟩
    · exact .inl hj
    · exact .inr (by rw [(inA_some _ _).1 hj]; exact Nat.le_refl _)
theorem rdNum_most (m : Int) (s : Rd) (hm : 0 ≤ m) : 0 ≤ (rdNum m s).1 ∧ (rdNum m s).1 ≤ m := by
  rcases rdNum_cases m s with h | ⟨bs, n, r, _, h, _, h2, _⟩
  · rw [h]; exact ⟨Int.le_refl _, hm⟩
  · rw [h]; exact ⟨by simp, h2⟩
theorem rdRow_len (m : Int) (hm : 0 ≤ m) (s : Rd) : ((rdRow m s).1.length : Int) ≤ m := by
  rcases rdNum_cases m s with h | ⟨bs, n, r, _, h, _, h2, _⟩
  · rw [rdRow_none h]; simpa using hm
  · rw [rdRow_some h]
    split
    · simpa using hm
    · simp; omega
end Go.Proofs.YtkjnlhidnkbelaaGreatDoor
/- A struct stored into a part of a block. -/
namespace Go.Proofs.YtkjnlhidnkbelaaGreatDoor
open Go Go.RowKit

/-- Cells from place o on, others put there. -/
def putL : List Value → Nat → List Value → List Value
  | cs, 0, [] => cs
  | [], 0, _ :: _ => []
  | _ :: cs, 0, v :: vs => v :: putL cs 0 vs
  | [], _ + 1, _ => []
  | c :: cs, o + 1, vs => c :: putL cs o vs
theorem putL_nil (cs : List Value) (o : Nat) : putL cs o [] = cs := by
  induction cs generalizing o with
  | nil => cases o <;> rfl
  | cons c cs ih =>
    cases o with
    | zero => rfl
    | succ o => show c :: putL cs o [] = _; rw [ih]
theorem putL_cons (cs : List Value) (o : Nat) (v : Value) (vs : List Value) : putL cs o (v :: vs) = putL (cs.set o v) (o + 1) vs := by
  induction cs generalizing o with
  | nil => cases o <;> rfl
  | cons c cs ih =>
    cases o with
    | zero =>
      show v :: putL cs 0 vs = v :: putL cs 0 vs
      rfl
    | succ o =>
      show c :: putL cs o (v :: vs) = c :: putL (cs.set o v) (o + 1) vs
      rw [ih]
section
variable {w w' : World} {g : Nat} {t : TypeId} {l : List Value}
theorem Blk.setCells (h : Blk w g t l.toArray) (o : Nat) (vs : List Value) : Blk (w.setCells g o vs) g t (putL l o vs).toArray := by
  induction vs generalizing w o l with
  | nil => rw [putL_nil]; exact h
  | cons v vs ih =>
    rw [putL_cons]
    have h1 := h.set_ o v
    rw [List.setIfInBounds_toArray] at h1
    exact ih h1 (o + 1)
theorem Fr.set1 (f : Fr (· = g) w w') (k : Nat) (u : Value) : Fr (· = g) w (w'.setCell ⟨g, k, none⟩ u) := f.setCell (p := ⟨g, k, none⟩) (.inl rfl) u
theorem Fr.setCells (f : Fr (· = g) w w') (o : Nat) (vs : List Value) : Fr (· = g) w (w'.setCells g o vs) := by
  induction vs generalizing w' o with
  | nil => exact f
  | cons v vs ih => exact ih (f.set1 o v) (o + 1)
theorem Blk.there (h : Blk w g t l.toArray) (o n : Nat) (hn : o + n ≤ l.length) : w.there g o n := fun j hj => by
  have h1 := h.cell (o + j)
  have h2 := h.frozen (o + j)
  rw [h1]
  exact ⟨by simp; omega, h2⟩
theorem Blk.cells_at (h : Blk w g t l.toArray) (o : Nat) : ∀ p u, (l.drop o)[p]? = some u → w.cell? ⟨g, o + p, none⟩ = some u := fun p u hu => by
  rw [h.cell]
  simpa using hu
theorem Blk.cells_in (h : Blk w g t l.toArray) (o n : Nat) : ∀ p u, ((l.drop o).take n)[p]? = some u → w.cell? ⟨g, o + p, none⟩ = some u := fun p u hu => by
  refine h.cells_at o p u ?_
  rw [List.getElem?_take] at hu
  split at hu
  · exact hu
  · cases hu
end
end Go.Proofs.YtkjnlhidnkbelaaGreatDoor
/- Orders and answers in memory. -/
namespace Go.Proofs.YtkjnlhidnkbelaaGreatDoor
open Go Go.RowKit

/-- Where the lists lie. -/
structure Pl where
  a : Option Addr
  ca : Nat
  r : Option Addr
  cr : Nat
  b : Option Addr
  cb : Nat
def plZ : Pl := ⟨none, 0, none, 0, none, 0⟩
/-- A part's lists taken over. -/
def plTo (p q : Pl) : Part → Pl
  | .acts => { q with a := p.a, ca := p.ca }
  | .reads => { q with r := p.r, cr := p.cr }
  | .load => { q with b := p.b, cb := p.cb }
  | _ => q
abbrev U8V (n : Int) : Value := .int .u8 n
/-- An order's thirteen cells. -/
abbrev ofA (kv : Value) (x : OrdF) (p : Pl) : Array Value :=
  #[kv, I64 x.nm.1, I64 x.nm.2, I64 x.epoch, .slice p.a x.acts.length p.ca, .bool x.commit, .slice p.r x.reads.length p.cr, I64 x.scheme, I64 x.stage, I64 x.to, StrV x.lo, StrV x.hi, .slice p.b x.bytes.length p.cb]
/-- An answer's nine cells. -/
abbrev afA (x : AnsF) (p : Pl) : Array Value :=
  #[I64 x.err, I64 x.nm.1, I64 x.nm.2, .bool x.is, .bool x.commit, .slice p.r x.reads.length p.cr, I64 x.scheme, I64 x.stage, .slice p.b x.bytes.length p.cb]
/-- An order's lists, in memory. -/
structure OrdIn (w : World) (F : Nat → Prop) (x : OrdF) (p : Pl) : Prop where
  acts : Sl w F p.a (actsCells x.acts)
  reads : Sl w F p.r (rdgsCells x.reads)
  bytes : Sl w F p.b (x.bytes.map B8)
  ca : x.acts.length ≤ p.ca ∧ p.ca ≤ maxLen
  cr : x.reads.length ≤ p.cr ∧ p.cr ≤ maxLen
  cb : x.bytes.length ≤ p.cb ∧ p.cb ≤ maxLen
structure AnsIn (w : World) (F : Nat → Prop) (x : AnsF) (p : Pl) : Prop where
  reads : Sl w F p.r (rdgsCells x.reads)
  bytes : Sl w F p.b (x.bytes.map B8)
  cr : x.reads.length ≤ p.cr ∧ p.cr ≤ maxLen
  cb : x.bytes.length ≤ p.cb ∧ p.cb ≤ maxLen
theorem OrdIn.fr {w w' : World} {F S : Nat → Prop} {x : OrdF} {p : Pl} (h : OrdIn w F x p) (f : Fr S w w') (hn : ∀ k, F k → ¬ S k) : OrdIn w' F x p :=
  ⟨h.acts.fr f hn, h.reads.fr f hn, h.bytes.fr f hn, h.ca, h.cr, h.cb⟩
theorem AnsIn.fr {w w' : World} {F S : Nat → Prop} {x : AnsF} {p : Pl} (h : AnsIn w F x p) (f : Fr S w w') (hn : ∀ k, F k → ¬ S k) : AnsIn w' F x p :=
  ⟨h.reads.fr f hn, h.bytes.fr f hn, h.cr, h.cb⟩
theorem OrdIn.mono {w : World} {F F' : Nat → Prop} {x : OrdF} {p : Pl} (h : OrdIn w F x p) (hF : ∀ k, F k → k < w.heap.size → F' k) : OrdIn w F' x p :=
  ⟨h.acts.mono hF, h.reads.mono hF, h.bytes.mono hF, h.ca, h.cr, h.cb⟩
theorem AnsIn.mono {w : World} {F F' : Nat → Prop} {x : AnsF} {p : Pl} (h : AnsIn w F x p) (hF : ∀ k, F k → k < w.heap.size → F' k) : AnsIn w F' x p :=
  ⟨h.reads.mono hF, h.bytes.mono hF, h.cr, h.cb⟩
/-- Acts that are not beyond what a machine has. -/
def ActSz (l : List ActT) : Prop := ∀ a ∈ l, (0 ≤ a.kind ∧ a.kind ≤ 255) ∧ a.key.length ≤ 140737488355328 ∧ a.val.length ≤ 140737488355328
structure OrdSz (x : OrdF) : Prop where
  kind : 0 ≤ x.kind ∧ x.kind ≤ 255
  acts : x.acts.length ≤ 1000000000 ∧ ActSz x.acts
  reads : x.reads.length ≤ 1000000000 ∧ RdgSz x.reads
  bytes : x.bytes.length ≤ 1000000000
  lo : x.lo.length ≤ 1000000000000
  hi : x.hi.length ≤ 1000000000000
structure AnsSz (x : AnsF) : Prop where
  reads : x.reads.length ≤ 1000000000 ∧ RdgSz x.reads
  bytes : x.bytes.length ≤ 1000000000
theorem of_one (k : Value) (hk : k.oneCell' = true) (x : OrdF) (p : Pl) : (ofA k x p).all (·.oneCell') = true := by
  rw [List.all_toArray]
  simp only [List.all_cons, List.all_nil, hk]
  rfl
theorem af_one (x : AnsF) (p : Pl) : (afA x p).all (·.oneCell') = true := by
  rw [List.all_toArray]
  simp only [List.all_cons, List.all_nil]
  rfl
theorem ord_size : (Tryz.prog.info? 31).map (·.size) = some 13 := by kernel_rfl
theorem rord_size : (Tryz.prog.info? 55).map (·.size) = some 13 := by kernel_rfl
theorem ans_size : (Tryz.prog.info? 41).map (·.size) = some 9 := by kernel_rfl
theorem rans_size : (Tryz.prog.info? 60).map (·.size) = some 9 := by kernel_rfl
abbrev zO (kv : Value) : Array Value := #[kv, I64 0, I64 0, I64 0, .slice none 0 0, .bool false, .slice none 0 0, I64 0, I64 0, I64 0, .string ⟨#[]⟩, .string ⟨#[]⟩, .slice none 0 0]
abbrev zA : Array Value := #[I64 0, I64 0, I64 0, .bool false, .bool false, .slice none 0 0, I64 0, I64 0, .slice none 0 0]
set_option maxRecDepth 100000 in
theorem owithin_any (w : World) (a b c : Int) : Calls Tryz.prog 51 #[I64 a, I64 b, I64 c] w fun e w' => e = .returned (.bool (decide (a ≤ b ∧ b ≤ c))) ∧ Nw w w' := by
  by_cases h1 : a ≤ b
  · by_cases h2 : b ≤ c
    · have e : decide (a ≤ b ∧ b ≤ c) = true := decide_eq_true ⟨h1, h2⟩
      rw [e]
      go_enter Tryz.func51, Tryz.ntmps51
      go_wp2_with fail
      go_ret
      exact ⟨rfl, Fr.refl _ w⟩
    · have e : decide (a ≤ b ∧ b ≤ c) = false := decide_eq_false fun h => h2 h.2
      rw [e]
      go_enter Tryz.func51, Tryz.ntmps51
      go_wp2_with fail
      go_ret
      exact ⟨by simp, Fr.refl _ w⟩
  · have e : decide (a ≤ b ∧ b ≤ c) = false := decide_eq_false fun h => h1 h.1
    rw [e]
    go_enter Tryz.func51, Tryz.ntmps51
    go_wp2_with fail
    go_ret
    exact ⟨by simp, Fr.refl _ w⟩
set_option maxRecDepth 100000 in
/-- 'bytes.Equal'. -/
theorem bequal_any (w : World) (F1 F2 : Nat → Prop) (A1 A2 : Option Addr) (c1 c2 : Nat) (xs ys : List UInt8) (h1 : Sl w F1 A1 (xs.map B8)) (h2 : Sl w F2 A2 (ys.map B8)) :
    Calls Tryz.prog 151 #[.slice A1 xs.length c1, .slice A2 ys.length c2] w fun e w' => e = .returned (.bool (decide (xs = ys))) ∧ Nw w w' := by
  have t1 := run_text_sl w F1 A1 c1 xs h1
  have t2 := run_text_sl w F2 A2 c2 ys h2
  have hbe : (xs == ys) = decide (xs = ys) := by rw [Bool.eq_iff_iff]; simp
  have HB := Lib.hid hbe
  clear hbe
  go_enter Tryz.func151, Tryz.ntmps151
  go_wp2_with fail
  go_ret
  exact ⟨by simp [HB.out], Fr.refl _ w⟩
end Go.Proofs.YtkjnlhidnkbelaaGreatDoor

namespace Go.Proofs.YtkjnlhidnkbelaaGreatDoor
open Go Go.RowKit

/-- Nothing but draws. -/
def Quiet (w w' : World) : Prop := ∃ n, w' = w.drewN n
theorem Quiet.refl (w : World) : Quiet w w := ⟨0, rfl⟩
theorem Quiet.drewN {w w' : World} (h : Quiet w w') (n : Nat) : Quiet w (w'.drewN n) := by
  obtain ⟨k, rfl⟩ := h
  exact ⟨k + n, by rw [World.drewN_drewN]⟩
theorem Quiet.fr {w w' : World} (h : Quiet w w') (S : Nat → Prop) : Fr S w w' := by
  obtain ⟨k, rfl⟩ := h
  exact (Fr.refl S w).drewN k

theorem ret_eq {v v' : Value} (h : v = v') : Ending.returned v = .returned v' := by rw [h]

theorem Quiet.cell {w w' : World} (h : Quiet w w') (a : Addr) : w'.cell? a = w.cell? a := by obtain ⟨n, rfl⟩ := h; rfl
def SameRel (w : World) (xs ys : List UInt8) (i : Value) (wr : World) : Prop :=
  ∃ k : Nat, i = .int .i64 k ∧ k ≤ xs.length ∧ xs.take k = ys.take k ∧ Quiet w wr

theorem same_u8 (w : World) (F1 F2 : Nat → Prop) (A1 A2 : Option Addr) (c1 c2 : Nat) (xs ys : List UInt8) (h1 : Sl w F1 A1 (xs.map B8)) (h2 : Sl w F2 A2 (ys.map B8)) (hm1 : xs.length ≤ 1000000000000) :
    Calls Tryz.prog 23 #[.slice A1 xs.length c1, .slice A2 ys.length c2] w fun e w' => e = .returned (.bool (decide (xs = ys))) ∧ Quiet w w' := by
  by_cases hl : xs.length = ys.length
  · have hlen : ((xs.length : Int) != (ys.length : Int)) = false := by simp [hl]
    have HL := Lib.hid hl
    clear hl
    go_enter Tryz.func23, Tryz.ntmps23
    go_wp2
    go_loopw [5] (fun i wr => SameRel w xs ys i wr) (fun i _ => xs.length - (intOf i).toNat)
    case atStart => exact ⟨0, rfl, Nat.zero_le _, rfl, Quiet.refl _⟩
    case round =>
      obtain ⟨k, rfl, hk, ht, hq⟩ := hrel
      have HT := Lib.hid ht
      clear ht
      by_cases hlt : k < xs.length
      · have hlt2 : k < ys.length := by have := HL.out; omega
        obtain ⟨n, rfl⟩ := hq
        obtain ⟨b1, o1, rfl, _, hc1⟩ := h1.get hlt
        obtain ⟨b2, o2, rfl, _, hc2⟩ := h2.get hlt2
        have hi1 : (k : Int) < (xs.length : Int) := by omega
        have hi2 : (k : Int) < (ys.length : Int) := by omega
        go_wp2
        go_quiet (fail)
        by_cases heq : (((xs[k].toNat : Nat) : Int) != ((ys[k].toNat : Nat) : Int)) = false
        rotate_left
        · have hne : (((xs[k].toNat : Nat) : Int) != ((ys[k].toNat : Nat) : Int)) = true := by simpa using heq
          clear heq
          go_wp2
          go_ret
          refine ⟨ret_eq (congrArg Value.bool (decide_eq_false ?_).symm), ((Quiet.refl w).drewN n).drewN _⟩
          rintro rfl
          simp at hne
        · go_wp2
          go_roundw
          case rel =>
            refine ⟨k + 1, by go_num, by omega, ?_, ⟨_, rfl⟩⟩
            rw [List.take_succ_eq_append_getElem hlt, List.take_succ_eq_append_getElem hlt2, HT.out]
            congr 2
            have h5 : ((xs[k].toNat : Nat) : Int) = ((ys[k].toNat : Nat) : Int) := by simpa using heq
            have : xs[k].toNat = ys[k].toNat := by omega
            exact UInt8.toNat_inj.1 this
          case measure => simp [intOf]; omega
      · go_wp2
        go_ret
        have hx : xs = ys := by
          have := HT.out
          rwa [List.take_of_length_le (by omega), List.take_of_length_le (by have := HL.out; omega)] at this
        exact ⟨ret_eq (congrArg Value.bool (decide_eq_true hx).symm), hq⟩
  · have hlen : ((xs.length : Int) != (ys.length : Int)) = true := by simp; omega
    go_enter Tryz.func23, Tryz.ntmps23
    go_wp2
    go_ret
    exact ⟨ret_eq (congrArg Value.bool (decide_eq_false fun h => hl (by rw [h])).symm), Quiet.refl _⟩
end Go.Proofs.YtkjnlhidnkbelaaGreatDoor
