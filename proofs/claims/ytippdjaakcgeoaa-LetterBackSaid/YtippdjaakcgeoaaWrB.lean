/- The program's writer: what its exported methods do. -/
import Derived.Test.YtippdjaakcgeoaaWrA
namespace Go.Proofs.Ytippdjaakcgeoaa
open Go Go.RowKit

theorem wknown_yes (w : World) (F : Nat → Prop) (g : Nat) (s : Wr) (h : IsWr w F g s) :
    Calls Try.prog 78 #[.pointer (some ⟨g, 0, none⟩)] w fun e w' => e = .returned (.bool true) ∧ w = w' := by
  obtain ⟨A, cap, hb, -⟩ := h
  have c0 := hb.cell 0
  simp at c0
  go_enter Try.func78, Try.ntmps78
  go_wp2
  go_ret
  exact ⟨rfl, rfl⟩

theorem number_any (w : World) (F : Nat → Prop) (g : Nat) (s : Wr) (h : IsWr w F g s) (n : Int) (hsz : s.bs.length ≤ 900000000000) :
    Calls Try.prog 79 #[.pointer (some ⟨g, 0, none⟩), .int .i64 n] w fun e w' => e = .returned (.tuple #[]) ∧ WrTo w F g (wrNum n s) w' := by
  unfold wrNum
  by_cases hn : n < 0 ∨ (topN : Int) < n
  · rw [if_pos hn]
    exact number_bad w F g s h n hn
  · rw [if_neg hn]
    obtain ⟨k, rfl⟩ := Int.eq_ofNat_of_zero_le (show 0 ≤ n by omega)
    rw [Int.toNat_natCast]
    exact number_ok w F g s h k (by unfold topN at hn; omega) hsz

theorem newWriter_any (w : World) :
    Calls Try.prog 52 #[] w fun e w' => e = .returned (.pointer (some ⟨w.heap.size, 0, none⟩)) ∧ IsWr w' (· = w.heap.size) w.heap.size ⟨true, []⟩ ∧ Fr (fun _ => False) w w' := by
  go_enter Try.func52, Try.ntmps52
  go_wp2
  go_ret
  refine ⟨rfl, ⟨none, 0, Blk.new _ _ _, Own.nil _ _ _, rfl, fun k hk => (inA_none k hk).elim, fun k hk => by subst hk; simp⟩, (Fr.refl _ w).alloc _⟩

/-- The writer's state in a loop. -/
def WrLoop (w : World) (F : Nat → Prop) (g : Nat) (s : Nat → Wr) (m : Nat) (v : Value) (wr : World) : Prop :=
  ∃ k : Nat, v = .int .i64 k ∧ k ≤ m ∧ WrTo w F g (s k) wr

theorem WrTo.refl {w : World} {F : Nat → Prop} {g : Nat} {s : Wr} (h : IsWr w F g s) : WrTo w F g s w := ⟨F, h, Fr.refl _ _, fun _ hk => .inl hk⟩

theorem numbers_any (w : World) (F F2 : Nat → Prop) (g : Nat) (s : Wr) (h : IsWr w F g s) (A2 : Option Addr) (c : Nat) (ns : List Int) (hsl : Sl w F2 A2 (ns.map I64)) (hd : Apart w F2 F) (hmax : ns.length ≤ 1000000000)
    (hsz : s.bs.length ≤ 800000000000) :
    Calls Try.prog 53 #[.pointer (some ⟨g, 0, none⟩), .slice A2 ns.length c] w fun e w' => e = .returned (.pointer (some ⟨g, 0, none⟩)) ∧ WrTo w F g (wrNums ns s) w' := by
  go_enter Try.func53, Try.ntmps53
  go_wp2_with (go_at_call 78; refine (wknown_yes _ _ _ _ h).mono ?_; rintro e w' ⟨rfl, rfl⟩)
  go_loopw [6, 11] (fun _ i wr => WrLoop w F g (fun k => wrNums (ns.take k) s) ns.length i wr) (fun _ i _ => ns.length - (intOf i).toNat)
  case atStart => exact ⟨0, rfl, Nat.zero_le _, WrTo.refl h⟩
  case round =>
    obtain ⟨k, rfl, hk, F', hw, hf, hF⟩ := hrel
    by_cases hlt : k < ns.length
    · obtain ⟨b, o, rfl, hFb, hc⟩ := (hsl.fr hf hd.no).get hlt
      have hlen := wrNums_len (ns.take k) s
      rw [List.length_take] at hlen
      go_wp2_with (go_at_call 79; refine (number_any _ _ _ _ hw _ (by omega)).mono ?_; rintro e w2 ⟨rfl, h2⟩)
      go_roundw
      case rel =>
        refine ⟨k + 1, by go_num, by omega, ?_⟩
        show WrTo w F g (wrNums (ns.take (k + 1)) s) w2
        rw [wrNums_succ _ _ hlt]
        exact WrTo.trans hf hF h2
      case measure => simp [intOf]; omega
    · go_wp2_with fail
      go_ret
      refine ⟨rfl, ?_⟩
      have e : ns.take k = ns := List.take_of_length_le (by omega)
      rw [e] at hw
      exact ⟨F', hw, hf, hF⟩

theorem flags_any (w : World) (F F2 : Nat → Prop) (g : Nat) (s : Wr) (h : IsWr w F g s) (A2 : Option Addr) (c : Nat) (ns : List Bool) (hsl : Sl w F2 A2 (ns.map Value.bool)) (hd : Apart w F2 F) (hmax : ns.length ≤ 1000000000)
    (hsz : s.bs.length ≤ 800000000000) :
    Calls Try.prog 80 #[.pointer (some ⟨g, 0, none⟩), .slice A2 ns.length c] w fun e w' => e = .returned (.pointer (some ⟨g, 0, none⟩)) ∧ WrTo w F g (wrFlags ns s) w' := by
  go_enter Try.func80, Try.ntmps80
  go_wp2_with (go_at_call 78; refine (wknown_yes _ _ _ _ h).mono ?_; rintro e w' ⟨rfl, rfl⟩)
  go_loopw [6, 11] (fun _ i wr => WrLoop w F g (fun k => wrFlags (ns.take k) s) ns.length i wr) (fun _ i _ => ns.length - (intOf i).toNat)
  case atStart => exact ⟨0, rfl, Nat.zero_le _, WrTo.refl h⟩
  case round =>
    obtain ⟨k, rfl, hk, F', hw, hf, hF⟩ := hrel
    by_cases hlt : k < ns.length
    · obtain ⟨b, o, rfl, hFb, hc⟩ := (hsl.fr hf hd.no).get hlt
      have hlen := wrFlags_len (ns.take k) s
      rw [List.length_take] at hlen
      have HL : (wrFlags (ns.take k) s).bs.length + 1 ≤ 1000000000000 := by omega
      clear hlen
      have hsucc := Lib.hid (wrFlags_succ ns k hlt s)
      cases hx : ns[k]
      · rw [hx] at hc
        have HX := Lib.hid hx
        clear hx
        go_wp2_with (go_at_call 97; refine (put_any _ F' _ g _ (hw.alloc _) _ 1 1 [0] rfl ((Blk.new _ _ _).sl 0 1) HL).mono ?_; rintro e w2 ⟨rfl, h2⟩)
        go_roundw
        case rel =>
          refine ⟨k + 1, by go_num, by omega, ?_⟩
          show WrTo w F g (wrFlags (ns.take (k + 1)) s) w2
          rw [hsucc.out, HX.out]
          exact WrTo.trans hf hF h2.alloc
        case measure => simp [intOf]; omega
      · rw [hx] at hc
        have HX := Lib.hid hx
        clear hx
        go_wp2_with (go_at_call 97; refine (put_any _ F' _ g _ (hw.alloc _) _ 1 1 [1] rfl ((Blk.new _ _ _).sl 0 1) HL).mono ?_; rintro e w2 ⟨rfl, h2⟩)
        go_roundw
        case rel =>
          refine ⟨k + 1, by go_num, by omega, ?_⟩
          show WrTo w F g (wrFlags (ns.take (k + 1)) s) w2
          rw [hsucc.out, HX.out]
          exact WrTo.trans hf hF h2.alloc
        case measure => simp [intOf]; omega
    · go_wp2_with fail
      go_ret
      refine ⟨rfl, ?_⟩
      have e : ns.take k = ns := List.take_of_length_le (by omega)
      rw [e] at hw
      exact ⟨F', hw, hf, hF⟩

theorem rows_any (w : World) (F F2 : Nat → Prop) (g : Nat) (s : Wr) (h : IsWr w F g s) (A2 : Option Addr) (c : Nat) (vs : List Value) (rs : List (List UInt8)) (hsl : Sl w F2 A2 vs) (hrs : RowsV w F2 vs rs) (hd : Apart w F2 F)
    (hsz : s.bs.length + 9 * rs.length + rowsLen rs ≤ 800000000000) :
    Calls Try.prog 83 #[.pointer (some ⟨g, 0, none⟩), .slice A2 rs.length c] w fun e w' => e = .returned (.pointer (some ⟨g, 0, none⟩)) ∧ WrTo w F g (wrRows rs s) w' := by
  go_enter Try.func83, Try.ntmps83
  go_wp2_with (go_at_call 78; refine (wknown_yes _ _ _ _ h).mono ?_; rintro e w' ⟨rfl, rfl⟩)
  go_loopw [6, 11] (fun _ i wr => WrLoop w F g (fun k => wrRows (rs.take k) s) rs.length i wr) (fun _ i _ => rs.length - (intOf i).toNat)
  case atStart => exact ⟨0, rfl, Nat.zero_le _, WrTo.refl h⟩
  case round =>
    obtain ⟨k, rfl, hk, F', hw, hf, hF⟩ := hrel
    by_cases hlt : k < rs.length
    · have hlen := wrRows_len (rs.take k) s
      rw [List.length_take] at hlen
      have hle := rowsLen_get rs k hlt
      have hb1 : (wrRows (rs.take k) s).bs.length ≤ 800000000000 ∧ (wrRows (rs.take k) s).bs.length + rs[k].length ≤ 800000000000 ∧ rs[k].length ≤ 800000000000 := by omega
      clear hlen hle
      have hsucc := Lib.hid (wrRows_succ rs k hlt s)
      obtain ⟨v, hv, A3, c3, rfl, hc1, hc2, hs3⟩ := (hrs.fr hf hd.no).2 k hlt
      obtain ⟨b, o, rfl, hFb, _, hcs⟩ := (hsl.fr hf hd.no).at_ (by rintro rfl; simp at hv)
      have hc := hcs k _ hv
      clear hcs
      have HV := Lib.hid hv
      clear hv
      have hn : ((rs[k].length : Nat) : Int).toNat = rs[k].length := Int.toNat_natCast _
      have hnb : ¬ (((rs[k].length : Nat) : Int) < 0 ∨ (topN : Int) < ((rs[k].length : Nat) : Int)) := by unfold topN; omega
      have hstep : wrNum ((rs[k].length : Nat) : Int) (wrRows (rs.take k) s) = { wrRows (rs.take k) s with bs := (wrRows (rs.take k) s).bs ++ enc rs[k].length } := by
        unfold wrNum; rw [if_neg hnb, hn]
      have HS := Lib.hid hstep
      clear hstep hn hnb
      have he9 := enc_len rs[k].length
      go_wp2_with fail
      refine (number_any _ _ _ _ hw _ (by omega)).mono ?_
      rintro e w2 ⟨rfl, F2', hw2, hf2, hn2⟩
      rw [HS.out] at hw2
      have hF2 : ∀ j, F2' j → F j ∨ w.heap.size ≤ j := fun j hj => (hn2 j hj).elim (hF j) (fun h => .inr (Nat.le_trans hf.size h))
      have hff := hf.trans hf2 hF
      go_wp2_with fail
      refine (put_any _ F2' _ g _ hw2 _ _ _ rs[k] rfl (hs3.fr hf2 (hd.step hf.size hF).no) ?_).mono ?_
      · simp; omega
      rintro e w3 ⟨rfl, h3⟩
      go_wp2_with fail
      go_roundw
      case rel =>
        refine ⟨k + 1, by go_num, by omega, ?_⟩
        show WrTo w F g (wrRows (rs.take (k + 1)) s) w3
        rw [hsucc.out]
        have := WrTo.trans hff hF2 h3
        simpa [wrRow] using this
      case measure => simp [intOf]; omega
    · go_wp2_with fail
      go_ret
      refine ⟨rfl, ?_⟩
      have e : rs.take k = rs := List.take_of_length_le (by omega)
      rw [e] at hw
      exact ⟨F', hw, hf, hF⟩

/-- A text's bytes, and what lies behind them. -/
theorem string_sl (w : World) (s : ByteArray) (cap : Nat) (t : TypeId) (fr : Nat × Nat) :
    Sl (w.alloc (.cells (bytesRow s cap) t fr)) (· = w.heap.size) (some ⟨w.heap.size, 0, none⟩) (s.data.toList.map B8) := by
  refine .inr ⟨w.heap.size, 0, rfl, rfl, by simp, fun j u hu => ?_⟩
  have hh : (w.alloc (.cells (bytesRow s cap) t fr)).heap[w.heap.size]? = some (.cells (bytesRow s cap) t fr) := heap_alloc_new w _
  rw [cell_of_row _ _ _ _ _ _ hh]
  simp at hu
  obtain ⟨a, ha, rfl⟩ := hu
  have hlt : j < s.data.size := by
    rcases Nat.lt_or_ge j s.data.size with h | h
    · exact h
    · rw [Array.getElem?_eq_none h] at ha; cases ha
  have hlt2 : j < s.size := hlt
  simp only [bytesRow]
  rw [Array.getElem?_append_left (by simpa using hlt2)]
  simp [ha]

theorem bytes_size (s : ByteArray) : s.data.toList.length = s.size := rfl

/-- One row, which is a text's bytes. -/
theorem rows_text (wr : World) (F : Nat → Prop) (g : Nat) (s : Wr) (hw : IsWr wr F g s) (x : ByteArray) (cp : Nat) (fr : Nat × Nat) (hlb : x.size ≤ cp) (hub : cp ≤ maxLen) (hsz : s.bs.length + 9 + x.size ≤ 800000000000) :
    Calls Try.prog 83 #[.pointer (some ⟨g, 0, none⟩), .slice (some ⟨wr.heap.size + 1, 0, none⟩) 1 1]
      ((wr.alloc (.cells (bytesRow x cp) 5 fr)).alloc (.cells #[.slice (some ⟨wr.heap.size, 0, none⟩) x.size cp] 38)).drew
      fun e w' => e = .returned (.pointer (some ⟨g, 0, none⟩)) ∧ WrTo wr F g (wrRow x.data.toList s) w' := by
  have hsl := (Blk.new (wr.alloc (.cells (bytesRow x cp) 5 fr)) 38 #[.slice (some ⟨wr.heap.size, 0, none⟩) x.size cp]).sl 0 1
  simp only [World.size_alloc, List.drop_zero] at hsl
  have hlt : ∀ k, F k → k < wr.heap.size := by obtain ⟨_, _, _, _, _, _, h⟩ := hw; exact h
  have h2 : Calls Try.prog 83 #[.pointer (some ⟨g, 0, none⟩), .slice (some ⟨wr.heap.size + 1, 0, none⟩) 1 1]
      ((wr.alloc (.cells (bytesRow x cp) 5 fr)).alloc (.cells #[.slice (some ⟨wr.heap.size, 0, none⟩) x.size cp] 38)).drew
      fun e w' => e = .returned (.pointer (some ⟨g, 0, none⟩)) ∧ WrTo ((wr.alloc (.cells (bytesRow x cp) 5 fr)).alloc (.cells #[.slice (some ⟨wr.heap.size, 0, none⟩) x.size cp] 38)).drew F g (wrRows [x.data.toList] s) w' :=
    rows_any (((wr.alloc (.cells (bytesRow x cp) 5 fr)).alloc (.cells #[.slice (some ⟨wr.heap.size, 0, none⟩) x.size cp] 38)).drew) F (fun j => j = wr.heap.size ∨ j = wr.heap.size + 1) g s ((hw.alloc (.cells (bytesRow x cp) 5 fr)).alloc (.cells #[.slice (some ⟨wr.heap.size, 0, none⟩) x.size cp] 38)) (some ⟨wr.heap.size + 1, 0, none⟩) 1
    [.slice (some ⟨wr.heap.size, 0, none⟩) x.size cp] [x.data.toList] (hsl.mono fun b hb _ => .inr hb)
    ⟨rfl, fun j hj => by
      obtain rfl : j = 0 := by simpa using hj
      exact ⟨_, rfl, some ⟨wr.heap.size, 0, none⟩, cp, rfl, hlb, hub, ((string_sl wr x cp 5 fr).mono fun b hb _ => .inl hb).alloc _⟩⟩
    (fun k hk => ⟨by simp; omega, fun hF => by have := hlt k hF; omega⟩)
    (by have := bytes_size x; simp [rowsLen]; omega)
  refine h2.mono fun e w' ⟨he, hx⟩ => ⟨he, ?_⟩
  obtain ⟨F2, h1, h2, h3⟩ := hx
  have hfr : Fr F wr ((wr.alloc (.cells (bytesRow x cp) 5 fr)).alloc (.cells #[.slice (some ⟨wr.heap.size, 0, none⟩) x.size cp] 38)).drew := (((Fr.refl F wr).alloc _).alloc _).drew
  exact ⟨F2, h1, hfr.tr h2, fun k hk => (h3 k hk).imp id fun h => Nat.le_trans hfr.size h⟩

/-- 'slices.Clone' of bytes. -/
theorem clone_u8 (w : World) (F : Nat → Prop) (A : Option Addr) (c : Nat) (bs : List UInt8) (hs : Sl w F A (bs.map B8)) (hsz : bs.length ≤ 1000000000000) :
    Calls Try.prog 56 #[.slice A bs.length c] w fun e w' => ∃ A' c', e = .returned (.slice A' bs.length c') ∧ Own w' 5 1 A' bs.length c' (bs.map B8) ∧ Fr (fun _ => False) w w' ∧ ∀ k, inA A' k → w.heap.size ≤ k := by
  have hnil := fun (w : World) (A : Option Addr) (n : Nat) => Lib.run_eql_slice_nil (P := Try.prog) w 38 5 A n c 0 0 Try.underlying38
  cases A with
  | none =>
    have hb : bs = [] := by
      rcases hs with h | ⟨b, o, h, _⟩
      · simpa using h
      · cases h
    subst hb
    go_enter Try.func56, Try.ntmps56
    go_wp2_with fail
    go_ret
    exact ⟨none, 0, rfl, Own.nil _ _ _, Fr.refl _ _, fun k hk => (inA_none k hk).elim⟩
  | some a =>
    go_enter Try.func56, Try.ntmps56
    go_wp2_with (at_builtin; refine wl_append rfl _ _ _ rfl 1 (.int .u8 0) Try.underlying38 info_u8 rfl (by decide) rfl (Own.new w 5 1 0 0 #[] (Nat.le_refl _) (by decide) rfl) rfl (hs.alloc _) (by simp) (B8_oneCell bs) (by omega) (by unfold maxLen; omega) ?_; intro A' cap' w1 ho hf hin)
    go_ret
    simp only [Nat.zero_add, Nat.zero_mul, List.take_zero, List.nil_append] at ho
    refine ⟨A', cap', rfl, ho, ((Fr.refl _ w).alloc _).trans hf fun k hk => .inr ?_, fun k hk => ?_⟩
    · rw [(inA_some _ _).1 hk]; exact Nat.le_refl _
    · rcases hin k hk with h | h
      · rw [(inA_some _ _).1 h]; exact Nat.le_refl _
      · rw [h]; simp

theorem done_ok (w : World) (F : Nat → Prop) (g : Nat) (s : Wr) (h : IsWr w F g s) (hok : s.ok = true) (hsz : s.bs.length ≤ 1000000000000) :
    Calls Try.prog 55 #[.pointer (some ⟨g, 0, none⟩)] w fun e w' => ∃ A' c', e = .returned (.tuple #[.slice A' s.bs.length c', .int .i64 0]) ∧ Own w' 5 1 A' s.bs.length c' (s.bs.map B8) ∧ Fr (fun _ => False) w w' ∧ ∀ k, inA A' k → w.heap.size ≤ k := by
  have h' := h
  obtain ⟨A, cap, hb, hown, hF, hFA, hFlt⟩ := h'
  have c1 := hb.cell 1
  have c2 := hb.cell 2
  simp [hok] at c1 c2
  have HK := Lib.hid hok
  clear hok
  go_enter Try.func55, Try.ntmps55
  go_wp2_with (first | (go_at_call 78; refine (wknown_yes _ _ _ _ h).mono ?_; rintro e w' ⟨rfl, rfl⟩) | (go_at_call 56; refine (clone_u8 _ _ _ _ _ hown.sl hsz).mono ?_; rintro e w1 ⟨A', c', rfl, ho, hf, hn⟩))
  go_ret2
  exact ⟨A', c', rfl, ho, hf, hn⟩

theorem done_bad (w : World) (F : Nat → Prop) (g : Nat) (s : Wr) (h : IsWr w F g s) (hok : s.ok = false) :
    Calls Try.prog 55 #[.pointer (some ⟨g, 0, none⟩)] w fun e w' => e = .returned (.tuple #[.slice none 0 0, .int .i64 2]) ∧ w = w' := by
  have h' := h
  obtain ⟨A, cap, hb, hown, hF, hFA, hFlt⟩ := h'
  have c1 := hb.cell 1
  simp [hok] at c1
  have HK := Lib.hid hok
  clear hok
  go_enter Try.func55, Try.ntmps55
  go_wp2_with (go_at_call 78; refine (wknown_yes _ _ _ _ h).mono ?_; rintro e w' ⟨rfl, rfl⟩)
  go_ret2
  exact ⟨rfl, rfl⟩
end Go.Proofs.Ytippdjaakcgeoaa
