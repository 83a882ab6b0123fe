/- The statements' kit: rows of bytes that are lent. -/
import Derived.Test.YtoapobgnfgfobaaApC
namespace Go.Proofs.Ytoapobgnfgfobaa
open Go Go.RowKit

/-- A lent row's header. -/
def lentV (p : Nat × List UInt8) : Value := .slice (some ⟨p.1, 0, none⟩) p.2.length (p.2.length + 12)
theorem Lent.fr {w w' : World} {S : Nat → Prop} {A : Option Addr} {ys : List UInt8} (h : Lent w A ys) (hf : Fr S w w') (hn : ∀ k, inA A k → ¬ S k) : Lent w' A ys := Own.fr h hf hn
theorem Lent.row {w : World} {A : Option Addr} {ys : List UInt8} (h : Lent w A ys) : Sl w (inA A) A (ys.map B8) := by
  have := h.sl.pre (k := ys.length)
  rwa [← List.map_take, List.take_left' rfl] at this
/-- Rows that were lent. -/
def LentRs (w : World) (B : Option Addr) (c : Nat) (gs : List Nat) (rs : List (List UInt8)) : Prop :=
  gs.length = rs.length ∧ Own w 43 1 B rs.length c ((List.zip gs rs).map lentV) ∧ ∀ k (h : k < gs.length) (h' : k < rs.length), Lent w (some ⟨gs[k], 0, none⟩) rs[k]
theorem LentRs.fr {w w' : World} {S : Nat → Prop} {B : Option Addr} {c : Nat} {gs : List Nat} {rs : List (List UInt8)} (h : LentRs w B c gs rs) (hf : Fr S w w') (hB : ∀ k, inA B k → ¬ S k) (hg : ∀ g ∈ gs, ¬ S g) : LentRs w' B c gs rs :=
  ⟨h.1, h.2.1.fr hf hB, fun k h1 h2 => (h.2.2 k h1 h2).fr hf (fun j hj => by rw [(inA_some _ _).1 hj]; exact hg _ (List.getElem_mem h1))⟩
theorem LentRs.snoc {w w1 w2 : World} {B B' : Option Addr} {c c' : Nat} {gs : List Nat} {rs : List (List UInt8)} {g : Nat} {r : List UInt8} {n : Nat} (h : LentRs w B c gs rs) (hn : n = rs.length) (q1 : Nw w w1) (hg : Lent w1 (some ⟨g, 0, none⟩) r) (hap : AppTo w1 43 1 B n c 1 ((List.zip gs rs).map lentV) [lentV (g, r)] B' c' w2) : LentRs w2 B' c' (gs ++ [g]) (rs ++ [r]) := by
  subst hn
  obtain ⟨hl, ho, hr⟩ := h
  have ho1 := ho.fr q1 (fun _ _ h => h)
  have hf := hap.fr
  obtain ⟨ho2, _, _⟩ := hap
  refine ⟨by simp [hl], ?_, fun k h1 h2 => ?_⟩
  · rw [List.zip_append hl, List.map_append]
    simpa using ho2
  · by_cases hk : k < gs.length
    · rw [List.getElem_append_left hk, List.getElem_append_left (show k < rs.length by omega)]
      have h3 := (hr k hk (by omega)).fr q1 (fun _ _ h => h)
      exact h3.fr hf (Own.off ho1 h3 (by decide))
    · have e : k = gs.length := by simp at h1; omega
      subst e
      have e1 : (gs ++ [g])[gs.length] = g := by simp
      have e2 : (rs ++ [r])[gs.length] = r := by simp [hl]
      rw [e1, e2]
      exact hg.fr hf (Own.off ho1 hg (by decide))

def LentRsRel (w : World) (rs : List (List UInt8)) (v i : Value) (wr : World) : Prop :=
  ∃ (k : Nat) (gs : List Nat) (B : Option Addr) (c : Nat), k ≤ rs.length ∧ i = .int .i64 k ∧ v = .slice B k c ∧ LentRs wr B c gs (rs.take k) ∧ Nw w wr ∧ (∀ j, inA B j → w.heap.size ≤ j) ∧ ∀ g ∈ gs, w.heap.size ≤ g

set_option maxRecDepth 100000 in
theorem lent_rows (w : World) (F : Nat → Prop) (A : Option Addr) (c : Nat) (vs : List Value) (rs : List (List UInt8)) (hs : Sl w F A vs) (hrs : RowsV w F vs rs) (hm : rs.length ≤ 1000000000) (hN : ∀ r ∈ rs, r.length ≤ 1000000000000) :
    Calls Try.prog 38 #[.slice A rs.length c] w fun e w' => ∃ gs B c', e = .returned (.slice B rs.length c') ∧ LentRs w' B c' gs rs ∧ Nw w w' ∧ (∀ j, inA B j → w.heap.size ≤ j) ∧ ∀ g ∈ gs, w.heap.size ≤ g := by
  have HN := Lib.hid hN
  clear hN
  go_enter Try.func38, Try.ntmps38
  go_wp2_with fail
  go_loopw [3, 4] (fun v i wr => LentRsRel w rs v i wr) (fun _ i _ => rs.length - (intOf i).toNat)
  case atStart => exact ⟨0, [], none, 0, Nat.zero_le _, rfl, rfl, ⟨rfl, Own.nil _ _ _, fun k h => by simp at h⟩, Fr.refl _ _, fun k hk => (inA_none k hk).elim, by simp⟩
  case round =>
    obtain ⟨k, gs, B, c2, hk, rfl, rfl, hL, hq, hB, hg⟩ := hrel
    by_cases hlt : k < rs.length
    · obtain ⟨v, hv, A3, c3, rfl, hc1, hc2, hs3⟩ := (hrs.fr hq (fun _ _ h => h)).2 k hlt
      obtain ⟨b, o, rfl, hFb, _, hcs⟩ := (hs.fr hq (fun _ _ h => h)).at_ (by rintro rfl; simp at hv)
      have hc := hcs k _ hv
      clear hcs hv
      have hn := HN.out _ (List.getElem_mem hlt)
      have htl : (rs.take k).length = k := by rw [List.length_take]; omega
      have ho := hL.2.1
      rw [htl] at ho
      have ht : rs.take (k + 1) = rs.take k ++ [rs[k]] := List.take_succ_eq_append_getElem hlt
      have hnx := fun (w1 w2 : World) (B' : Option Addr) (c' g : Nat) => LentRs.snoc (w1 := w1) (w2 := w2) (B' := B') (c' := c') (g := g) (r := rs[k]) hL htl.symm
      rw [← ht] at hnx
      have HNX := Lib.hid hnx
      clear hnx ht htl
      go_wp2_with (first | (go_at_call 45; refine (lent_u8 _ F A3 c3 rs[k] hs3 hn).mono ?_; rintro e w1 ⟨g, rfl, hl1, q1, hg1⟩) | (at_builtin; refine wl_append2 rfl _ _ _ rfl 24 (.slice none 0 0) Try.underlying72 info_bytes rfl (by decide) rfl ((ho.fr q1 (fun _ _ h => h)).alloc _) rfl (sl_new w1 43 [lentV (g, rs[k])] _ rfl) rfl (by simp [lentV, Value.oneCell']) (by omega) (by unfold maxLen; omega) ?_; intro B' c' w2 hap))
      go_roundw
      case rel =>
        obtain ⟨_, q2, n2⟩ := hap.newOwn ((hq.tr q1).alloc _) hB
        refine ⟨k + 1, gs ++ [g], B', c', by omega, by go_num, rfl, HNX.out _ _ _ _ _ (q1.alloc _) (hl1.fr (S := fun _ => False) ((Fr.refl _ w1).alloc _) (fun _ _ h => h)) hap, q2, n2, fun j hj => ?_⟩
        rcases List.mem_append.1 hj with h | h
        · exact hg j h
        · have e : j = g := by simpa using h
          have := hq.size
          omega
      case measure => simp [intOf]; omega
    · obtain rfl : rs.length = k := by omega
      rw [List.take_of_length_le (Nat.le_refl _)] at hL
      go_wp2_with fail
      go_ret
      exact ⟨gs, B, c2, rfl, hL, hq, hB, hg⟩

def KnownNwR (w : World) (n : Nat) (i : Value) (wx : World) : Prop := ∃ k : Nat, k ≤ n ∧ i = .int .i64 k ∧ Nw w wx
theorem LentRs.cell {w : World} {B : Option Addr} {c : Nat} {gs : List Nat} {rs : List (List UInt8)} (h : LentRs w B c gs rs) {k : Nat} (hk : k < rs.length) :
    ∃ g b, B = some ⟨b, 0, none⟩ ∧ w.cell? ⟨b, k, none⟩ = some (.slice (some ⟨g, 0, none⟩) rs[k].length (rs[k].length + 12)) ∧ Lent w (some ⟨g, 0, none⟩) rs[k] := by
  obtain ⟨hl, ho, hr⟩ := h
  have hk2 : k < gs.length := by omega
  rcases ho.2 with ⟨_, h2, _⟩ | ⟨b, cur, h2, _⟩
  · omega
  · refine ⟨gs[k], b, h2, ?_, hr k hk2 hk⟩
    rw [h2] at ho
    rw [ho.cellAt (k := k) (by omega), List.getElem?_map, show (List.zip gs rs)[k]? = some (gs[k], rs[k]) from List.getElem?_zip_eq_some.2 ⟨List.getElem?_eq_getElem hk2, List.getElem?_eq_getElem hk⟩]
    rfl

set_option maxRecDepth 100000 in
theorem kept_rows (w : World) (F : Nat → Prop) (A B : Option Addr) (c c' : Nat) (gs : List Nat) (vs : List Value) (rs : List (List UInt8)) (hL : LentRs w B c' gs rs) (hs : Sl w F A vs) (hrs : RowsV w F vs rs) (hm : rs.length ≤ 1000000000) (hN : ∀ r ∈ rs, r.length ≤ 1000000000000) :
    Calls Try.prog 43 #[.slice B rs.length c', .slice A rs.length c] w fun e w' => e = .returned (.bool true) ∧ Nw w w' := by
  have HN := Lib.hid hN
  clear hN
  go_enter Try.func43, Try.ntmps43
  go_wp2_with fail
  go_loopw [5] (fun i wr => KnownNwR w rs.length i wr) (fun i _ => rs.length - (intOf i).toNat)
  case atStart => exact ⟨0, Nat.zero_le _, rfl, Fr.refl _ _⟩
  case round =>
    obtain ⟨k, hk, rfl, hq⟩ := hrel
    by_cases hlt : k < rs.length
    · obtain ⟨v, hv, A3, c3, rfl, hc1, hc2, hs3⟩ := (hrs.fr hq (fun _ _ h => h)).2 k hlt
      obtain ⟨b, o, rfl, hFb, _, hcs⟩ := (hs.fr hq (fun _ _ h => h)).at_ (by rintro rfl; simp at hv)
      have hc := hcs k _ hv
      clear hcs hv
      have hn := HN.out _ (List.getElem_mem hlt)
      obtain ⟨g, b2, rfl, hcl, hl⟩ := (hL.fr hq (fun _ _ h => h) (fun _ _ h => h)).cell hlt
      have hi0 : (k : Int) < (rs.length : Int) := by omega
      have hkp := fun (n : Later wr) => kept_u8 n.at_ F (some ⟨g, 0, none⟩) A3 c3 rs[k] (hl.fr n.nw (fun _ _ h => h)) (hs3.fr n.nw (fun _ _ h => h)) hn
      have hkq := fun (n : Later wr) => (hkp n).mono fun e w' (h : e = .returned (.bool true) ∧ Quiet n.at_ w') => (⟨h.1, h.2.fr _⟩ : e = .returned (.bool true) ∧ Nw n.at_ w')
      generalize rs[k].length = m at *
      have HK := Lib.hid hkq
      have d1 := fun (n : Later wr) => n.cell hc
      have d2 := fun (n : Later wr) => n.cell hcl
      clear hkp hkq hcl hc
      go_wp2_with fail
      refine wp_region_later (by kernel_rfl) (by kernel_rfl) ?_
      repeat (go_big_quiet_step ((go_at_call 78; exact Later.call (HK.out _))))
      refine wpQuiet_later fun w5 q5 => ?_
      clear d1 d2
      go_wp2_with fail
      go_roundw
      case rel => exact ⟨k + 1, by omega, by go_num, hq.tr q5⟩
      case measure => simp [intOf]; omega
    · go_wp2_with fail
      go_ret
      exact ⟨rfl, hq⟩
end Go.Proofs.Ytoapobgnfgfobaa
