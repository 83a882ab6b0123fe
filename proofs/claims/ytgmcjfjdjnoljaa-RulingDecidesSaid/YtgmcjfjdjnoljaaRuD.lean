/- Rulings: reads cloned, compared, told right; a verdict copied. -/
import Derived.Test.YtgmcjfjdjnoljaaRuC
import Derived.Test.YtgmcjfjdjnoljaaRec
import Derived.Deep.RegionHeld3
namespace Go.Proofs.Ytgmcjfjdjnoljaa
open Go Go.RowKit

theorem Sl.rdg {w : World} {F : Nat → Prop} {A : Option Addr} {l : List Rdg} (h : Sl w F A (rdgsCells l)) {k : Nat} (hk : k < l.length) :
    ∃ b o, A = some ⟨b, o, none⟩ ∧ F b ∧ w.cell? ⟨b, o + k * 3, none⟩ = some (StrV l[k].1) ∧ w.cell? ⟨b, o + k * 3 + 1, none⟩ = some (.bool l[k].2.1) ∧ w.cell? ⟨b, o + k * 3 + 2, none⟩ = some (StrV l[k].2.2) := by
  obtain ⟨b, o, hA, hF, _, hc⟩ := h.at_ (by intro e; have := congrArg List.length e; rw [rdgsCells_len] at this; simp at this; omega)
  exact ⟨b, o, hA, hF, by have := hc (k * 3 + 0) _ (rdgsCells_at l k hk 0 (by omega)); simpa using this, by rw [Nat.add_assoc]; exact hc _ _ (rdgsCells_at l k hk 1 (by omega)), by rw [Nat.add_assoc]; exact hc _ _ (rdgsCells_at l k hk 2 (by omega))⟩
/-- Texts that are not beyond what a machine has. -/
def RdgSz (l : List Rdg) : Prop := ∀ r ∈ l, r.1.length ≤ 1000000000000 ∧ r.2.2.length ≤ 1000000000000

theorem cloneRead_any (w : World) (F : Nat → Prop) (A : Option Addr) (c : Nat) (l : List Rdg) (hs : Sl w F A (rdgsCells l)) (hsz : l.length ≤ 1000000000000) :
    Calls Try.prog 71 #[.slice A l.length c] w fun e w' => ∃ A' c', e = .returned (.slice A' l.length c') ∧ Own w' 83 3 A' l.length c' (rdgsCells l) ∧ Nw w w' ∧ ∀ k, inA A' k → w.heap.size ≤ k := by
  have hnil := fun (w : World) (A : Option Addr) (n : Nat) => Lib.run_eql_slice_nil (P := Try.prog) w 36 83 A n c 0 0 Try.underlying36
  have hlen := rdgsCells_len l
  cases A with
  | none =>
    have hb : l = [] := by
      rcases hs with h | ⟨b, o, h, _⟩
      · rw [h] at hlen
        exact List.eq_nil_of_length_eq_zero (by simp at hlen; omega)
      · cases h
    subst hb
    go_enter Try.func71, Try.ntmps71
    go_wp2_with fail
    go_ret
    exact ⟨none, 0, rfl, Own.nil _ _ _, Fr.refl _ _, fun k hk => (inA_none k hk).elim⟩
  | some a =>
    go_enter Try.func71, Try.ntmps71
    go_wp2_with (at_builtin; refine wl_append rfl _ _ _ rfl 40 (.agg #[.string ⟨#[]⟩, .bool false, .string ⟨#[]⟩]) Try.underlying36 info_read rfl (by decide) rfl (Own.new w 83 3 0 0 #[] (Nat.le_refl _) (by decide) rfl) rfl (hs.alloc _) hlen (rdgsCells_one l) (by omega) (by unfold maxLen; omega) ?_; intro A' cap' w1 ho hf hin)
    go_ret
    simp only [Nat.zero_add, Nat.zero_mul, List.take_zero, List.nil_append] at ho
    refine ⟨A', cap', rfl, ho, ((Fr.refl _ w).alloc _).trans hf fun k hk => .inr ?_, fun k hk => ?_⟩
    · rw [(inA_some _ _).1 hk]; exact Nat.le_refl _
    · rcases hin k hk with h | h
      · rw [(inA_some _ _).1 h]; exact Nat.le_refl _
      · rw [h]; simp
theorem copyReads_any (w : World) (F : Nat → Prop) (A : Option Addr) (c : Nat) (l : List Rdg) (hs : Sl w F A (rdgsCells l)) (hsz : l.length ≤ 1000000000000) :
    Calls Try.prog 68 #[.slice A l.length c] w fun e w' => ∃ A' c', e = .returned (.slice A' l.length c') ∧ Own w' 83 3 A' l.length c' (rdgsCells l) ∧ Nw w w' ∧ ∀ k, inA A' k → w.heap.size ≤ k := by
  have hlen := rdgsCells_len l
  go_enter Try.func68, Try.ntmps68
  go_wp2_with (at_builtin; refine wl_append rfl _ _ _ rfl 40 (.agg #[.string ⟨#[]⟩, .bool false, .string ⟨#[]⟩]) Try.underlying36 info_read rfl (by decide) rfl (Own.nil w 83 3) rfl hs hlen (rdgsCells_one l) (by omega) (by unfold maxLen; omega) ?_; intro A' cap' w1 ho hf hin)
  go_ret
  simp only [Nat.zero_add, List.nil_append] at ho
  refine ⟨A', cap', by simp, ho, hf.trans (Fr.refl (fun _ => False) _) (fun _ h => h.elim) |>.mono fun k hk => (inA_none k hk).elim, fun k hk => ?_⟩
  rcases hin k hk with h | h
  · exact (inA_none k h).elim
  · rw [h]; exact Nat.le_refl _

/-- A verdict's value. -/
abbrev VerV (v : Ver) (A : Option Addr) (c : Nat) : Value := .agg #[I64 v.1.1, I64 v.1.2, .bool v.2.1, I64 v.2.2.1, .slice A v.2.2.2.length c]
/-- What a copied verdict is: its reads in memory of its own. -/
def CopyTo (w : World) (v : Ver) (e : Ending) (w' : World) : Prop :=
  ∃ A c, e = .returned (VerV v A c) ∧ v.2.2.2.length ≤ c ∧ c ≤ maxLen ∧ Sl w' (fun k => w.heap.size ≤ k) A (rdgsCells v.2.2.2) ∧ Nw w w'
theorem ver_size : (Try.prog.info? 38).map (·.size) = some 5 := by kernel_rfl
theorem rver_size : (Try.prog.info? 41).map (·.size) = some 5 := by kernel_rfl
theorem ver_one (a b : Int) (m : Bool) (t : Int) (v : Value) (h : v.oneCell' = true) : (#[I64 a, I64 b, .bool m, I64 t, v] : Array Value).all (·.oneCell') = true := by
  rw [List.all_toArray]
  simp only [List.all_cons, List.all_nil, h]
  rfl
theorem copied_any (w : World) (F : Nat → Prop) (v : Ver) (A : Option Addr) (c : Nat) (hs : Sl w F A (rdgsCells v.2.2.2)) (hsz : v.2.2.2.length ≤ 1000000000000) :
    Calls Try.prog 44 #[VerV v A c] w fun e w' => CopyTo w v e w' := by
  obtain ⟨⟨a, b⟩, m, t, l⟩ := v
  have hcon := fun (w1 : World) (q : Nw w w1) => cloneRead_any w1 F A c l (hs.fr q (fun _ _ h => h)) hsz
  have q0 : Nw w ((w.alloc (.cells #[I64 a, I64 b, .bool m, I64 t, .slice A l.length c] 38)).alloc (.cells #[.int .i64 0, .int .i64 0, .bool false, .int .i64 0, .slice none 0 0] 38)) := ((Fr.refl _ w).alloc _).alloc _
  go_enter Try.func44, Try.ntmps44
  go_wp2_with fail
  refine (hcon _ q0).mono ?_
  rintro e w1 ⟨A', c', rfl, ho, q1, hA⟩
  have hb0 := ((Blk.new w 38 #[I64 a, I64 b, .bool m, I64 t, .slice A l.length c]).alloc (.cells #[.int .i64 0, .int .i64 0, .bool false, .int .i64 0, .slice none 0 0] 38)).fr q1 (fun h => h)
  have hd0 : Blk w1 (w.heap.size + 1) 38 _ := (by simpa using Blk.new (w.alloc (.cells #[I64 a, I64 b, .bool m, I64 t, .slice A l.length c] 38)) 38 #[.int .i64 0, .int .i64 0, .bool false, .int .i64 0, .slice none 0 0] : Blk _ (w.heap.size + 1) 38 _).fr q1 (fun h => h)
  have f0 := hb0.frozen 4
  have c4 := hb0.cell 4
  simp at c4
  have hb : Blk _ w.heap.size 38 #[I64 a, I64 b, .bool m, I64 t, .slice A' l.length c'] := hb0.set_ 4 (.slice A' l.length c')
  have hd := hd0.far (p := ⟨w.heap.size, 4, none⟩) (by simp) (.slice A' l.length c')
  have he := hd.row #[I64 a, I64 b, .bool m, I64 t, .slice A' l.length c']
  have hcap := ho.cap_le
  have h1 : (#[I64 a, I64 b, .bool m, I64 t, .slice A' l.length c'] : Array Value).all (·.oneCell') = true := ver_one a b m t (.slice A' l.length c') rfl
  go_wp2_with (first | (refine wpList_load_row rfl 38 _ rfl w.heap.size rfl 38 _ (0, 0) _ hb Try.underlying38 rfl ver_size ?_) | (refine wpList_store_row rfl 38 _ _ rfl (w.heap.size + 1) _ rfl rfl 38 _ hd ver_size rfl h1 ?_))
  refine bodyPost_ret (v := .agg #[I64 a, I64 b, .bool m, I64 t, .slice A' l.length c']) ?_ rfl ?_
  · exact results_cell_row rfl _ _ (w.heap.size + 1) 38 _ (0, 0) _ rfl he Try.underlying38 rfl ver_size
  have q2 : Nw w w1 := q0.tr q1
  have q4 : Fr (fun k => k = w.heap.size ∨ k = w.heap.size + 1) w1 ((w1.setCell ⟨w.heap.size, 4, none⟩ (.slice A' l.length c')).setRow (w.heap.size + 1) #[I64 a, I64 b, .bool m, I64 t, .slice A' l.length c']) := ((Fr.refl _ w1).setCell (.inl (.inl rfl)) _).setRow (.inl (.inr rfl)) _
  have hA2 : ∀ k, inA A' k → w.heap.size + 1 < k := fun k hk => by have := hA k hk; simp at this; omega
  refine ⟨A', c', rfl, hcap.1, hcap.2, ?_, ?_⟩
  · refine (ho.sl.fr q4 fun k hk => ?_).mono fun k hk _ => ?_
    · have := hA2 k hk
      omega
    · have := hA2 k hk
      omega
  · exact q2.trans q4 fun k hk => .inr (by omega)
set_option maxRecDepth 100000 in
set_option maxHeartbeats 4000000 in
theorem rcopied_any (w : World) (F : Nat → Prop) (v : Ver) (A : Option Addr) (c : Nat) (hs : Sl w F A (rdgsCells v.2.2.2)) (hsz : v.2.2.2.length ≤ 1000000000000) :
    Calls Try.prog 39 #[VerV v A c] w fun e w' => CopyTo w v e w' := by
  obtain ⟨⟨a, b⟩, m, t, l⟩ := v
  have hcon := fun (w1 : World) (q : Nw w w1) => copyReads_any w1 F A c l (hs.fr q (fun _ _ h => h)) hsz
  have q0 : Nw w ((w.alloc (.cells #[I64 a, I64 b, .bool m, I64 t, .slice A l.length c] 41)).alloc (.cells #[.int .i64 0, .int .i64 0, .bool false, .int .i64 0, .slice none 0 0] 41)) := ((Fr.refl _ w).alloc _).alloc _
  have hB := (Blk.new w 41 #[I64 a, I64 b, .bool m, I64 t, .slice A l.length c]).alloc (.cells #[.int .i64 0, .int .i64 0, .bool false, .int .i64 0, .slice none 0 0] 41)
  have hD : Blk ((w.alloc (.cells #[I64 a, I64 b, .bool m, I64 t, .slice A l.length c] 41)).alloc (.cells #[.int .i64 0, .int .i64 0, .bool false, .int .i64 0, .slice none 0 0] 41)) (w.heap.size + 1) 41 #[.int .i64 0, .int .i64 0, .bool false, .int .i64 0, .slice none 0 0] := by simpa using Blk.new (w.alloc (.cells #[I64 a, I64 b, .bool m, I64 t, .slice A l.length c] 41)) 41 #[.int .i64 0, .int .i64 0, .bool false, .int .i64 0, .slice none 0 0]
  have h1 := fun A' c' => ver_one a b m t (.slice A' l.length c') rfl
  generalize hW : (w.alloc (.cells #[I64 a, I64 b, .bool m, I64 t, .slice A l.length c] 41)).alloc (.cells #[.int .i64 0, .int .i64 0, .bool false, .int .i64 0, .slice none 0 0] 41) = W at q0 hB hD
  have HW := Lib.hid hW
  clear hW
  have g0 : W.drew.cell? ⟨w.heap.size, 0, none⟩ = some (I64 a) := by simpa using hB.cell 0
  have g1 : W.drew.cell? ⟨w.heap.size, 1, none⟩ = some (I64 b) := by simpa using hB.cell 1
  have g2 : W.drew.cell? ⟨w.heap.size, 2, none⟩ = some (.bool m) := by simpa using hB.cell 2
  have g3 : W.drew.cell? ⟨w.heap.size, 3, none⟩ = some (I64 t) := by simpa using hB.cell 3
  have g4 : W.drew.cell? ⟨w.heap.size, 4, none⟩ = some (.slice A l.length c) := by simpa using hB.cell 4
  have hk : ∀ w1, Nw W.drew w1 → w1.cell? ⟨w.heap.size, 0, none⟩ = some (I64 a) ∧ w1.cell? ⟨w.heap.size, 1, none⟩ = some (I64 b) ∧ w1.cell? ⟨w.heap.size, 2, none⟩ = some (.bool m) ∧ w1.cell? ⟨w.heap.size, 3, none⟩ = some (I64 t) ∧ w1.cell? ⟨w.heap.size, 4, none⟩ = some (.slice A l.length c) := fun w1 q =>
    ⟨(q.cell hB.lt (fun h => h)).trans g0, (q.cell hB.lt (fun h => h)).trans g1, (q.cell hB.lt (fun h => h)).trans g2, (q.cell hB.lt (fun h => h)).trans g3, (q.cell hB.lt (fun h => h)).trans g4⟩
  have hcon2 := hcon W.drew q0.drew
  have hkd : ∀ w1, Nw W.drew w1 → (w1.cell? ⟨w.heap.size + 1, 0, none⟩ = some (.int .i64 0) ∧ w1.cell? ⟨w.heap.size + 1, 1, none⟩ = some (.int .i64 0) ∧ w1.cell? ⟨w.heap.size + 1, 2, none⟩ = some (.bool false) ∧ w1.cell? ⟨w.heap.size + 1, 3, none⟩ = some (.int .i64 0) ∧ w1.cell? ⟨w.heap.size + 1, 4, none⟩ = some (.slice none 0 0)) ∧ (w1.frozen? ⟨w.heap.size + 1, 0, none⟩ = false ∧ w1.frozen? ⟨w.heap.size + 1, 1, none⟩ = false ∧ w1.frozen? ⟨w.heap.size + 1, 2, none⟩ = false ∧ w1.frozen? ⟨w.heap.size + 1, 3, none⟩ = false ∧ w1.frozen? ⟨w.heap.size + 1, 4, none⟩ = false) := fun w1 q => by
    have hd := hD.drew.fr q (fun h => h)
    exact ⟨⟨by simpa using hd.cell 0, by simpa using hd.cell 1, by simpa using hd.cell 2, by simpa using hd.cell 3, by simpa using hd.cell 4⟩, hd.frozen 0, hd.frozen 1, hd.frozen 2, hd.frozen 3, hd.frozen 4⟩
  have hend : ∀ A' c' w1, Own w1 83 3 A' l.length c' (rdgsCells l) → Nw W.drew w1 → (∀ k, inA A' k → W.drew.heap.size ≤ k) →
      Blk (((((w1.setCell ⟨w.heap.size + 1, 0, none⟩ (I64 a)).setCell ⟨w.heap.size + 1, 1, none⟩ (I64 b)).setCell ⟨w.heap.size + 1, 2, none⟩ (.bool m)).setCell ⟨w.heap.size + 1, 3, none⟩ (I64 t)).setCell ⟨w.heap.size + 1, 4, none⟩ (.slice A' l.length c')) (w.heap.size + 1) 41 #[I64 a, I64 b, .bool m, I64 t, .slice A' l.length c'] ∧
        CopyTo w ((a, b), m, t, l) (.returned (.agg #[I64 a, I64 b, .bool m, I64 t, .slice A' l.length c'])) (((((w1.setCell ⟨w.heap.size + 1, 0, none⟩ (I64 a)).setCell ⟨w.heap.size + 1, 1, none⟩ (I64 b)).setCell ⟨w.heap.size + 1, 2, none⟩ (.bool m)).setCell ⟨w.heap.size + 1, 3, none⟩ (I64 t)).setCell ⟨w.heap.size + 1, 4, none⟩ (.slice A' l.length c')) := by
    intro A' c' w1 ho q1 hA
    obtain ⟨he, q4⟩ := set5 (hD.drew.fr q1 (fun h => h)) (I64 a) (I64 b) (.bool m) (I64 t) (.slice A' l.length c')
    refine ⟨he, ?_⟩
    have q2 : Nw w w1 := q0.drew.tr q1
    have hcap := ho.cap_le
    have hws : w.heap.size + 1 < W.heap.size := by have := hD.lt; simpa using this
    have hA2 : ∀ k, inA A' k → w.heap.size + 1 < k := fun k hk => by have := hA k hk; have h2 : W.drew.heap.size = W.heap.size := rfl; omega
    refine ⟨A', c', rfl, hcap.1, hcap.2, ?_, ?_⟩
    · refine (ho.sl.fr q4 fun k hk => ?_).mono fun k hk _ => ?_
      · have := hA2 k hk
        omega
      · have := hA2 k hk
        omega
    · exact q2.trans q4 fun k hk => .inr (by omega)
  go_enter Try.func39, Try.ntmps39
  go_wp2_with fail
  rw [HW.out]
  (go_region_held3 (fun w' => w'.cell? ⟨w.heap.size, 0, none⟩ = some (I64 a) ∧ w'.cell? ⟨w.heap.size, 1, none⟩ = some (I64 b) ∧ w'.cell? ⟨w.heap.size, 2, none⟩ = some (.bool m) ∧ w'.cell? ⟨w.heap.size, 3, none⟩ = some (I64 t) ∧ w'.cell? ⟨w.heap.size, 4, none⟩ = some (.slice A l.length c)) (first | go_keep | ((exact kk)))
    ((first | (go_at_call 68; refine hcon2.mono ?_; rintro e w1 ⟨A', c', rfl, ho, q1, hA⟩; have kk := hk w1 q1; obtain ⟨⟨d0, d1, d2, d3, d4⟩, e0, e1, e2, e3, e4⟩ := hkd w1 q1; have hd := hend A' c' w1 ho q1 hA))))
  all_goals
    go_wp2_with fail
    refine bodyPost_ret (v := .agg #[I64 a, I64 b, .bool m, I64 t, .slice A' l.length c']) ?_ rfl hd.2
    exact results_cell_row rfl _ _ (w.heap.size + 1) 41 _ (0, 0) _ rfl hd.1 Try.underlying41 rfl rver_size
end Go.Proofs.Ytgmcjfjdjnoljaa