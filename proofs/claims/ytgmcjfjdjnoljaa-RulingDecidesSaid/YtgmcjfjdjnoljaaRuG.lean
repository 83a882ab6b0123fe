/- Rulings: the program's book: is it one, a new one, its last index, how many, one put behind. -/
import Derived.Test.YtgmcjfjdjnoljaaRuF
import Derived.Deep.QuietTactic
import Derived.Laws.Cover3
import Derived.Deep.RegionLawGrows
import Derived.StillTailTactics
namespace Go.Proofs.Ytgmcjfjdjnoljaa
open Go Go.RowKit

set_option maxRecDepth 100000 in
theorem bkKnown_any (w : World) (F : Nat → Prop) (g : Nat) (l : List Ver) (h : IsBk w F g l) :
    Calls Try.prog 37 #[.pointer (some ⟨g, 0, none⟩)] w fun e w' => e = .returned (.bool true) ∧ w = w' := by
  obtain ⟨A, cap, hm, cs, I, hb, _⟩ := h
  have c1 := hb.cell 1
  simp at c1
  have hne := fun (w : World) (m : Option Nat) => run_neq_map_nil (P := Try.prog) w 84 35 3 m Try.underlying84
  go_enter Try.func37, Try.ntmps37
  go_wp2
  go_ret
  exact ⟨rfl, rfl⟩
set_option maxRecDepth 100000 in
theorem bkMany_any (w : World) (F : Nat → Prop) (g : Nat) (l : List Ver) (h : IsBk w F g l) :
    Calls Try.prog 20 #[.pointer (some ⟨g, 0, none⟩)] w fun e w' => e = .returned (.int .i64 (l.length : Nat)) ∧ w = w' := by
  obtain ⟨A, cap, hm, cs, I, hb, _⟩ := id h
  have c0 := hb.cell 0
  simp at c0
  go_enter Try.func20, Try.ntmps20
  go_wp2_with (go_at_call 37; refine (bkKnown_any _ _ _ _ h).mono ?_; rintro e w' ⟨rfl, rfl⟩)
  go_ret
  exact ⟨rfl, rfl⟩
set_option maxRecDepth 100000 in
theorem bkNew_any (w : World) : Calls Try.prog 8 #[] w fun e w' => ∃ g F, e = .returned (.pointer (some ⟨g, 0, none⟩)) ∧ IsBk w' F g [] ∧ Nw w w' ∧ ∀ k, F k → w.heap.size ≤ k := by
  have hmm := @run_makeMap Try.prog
  go_enter Try.func8, Try.ntmps8
  go_wp2
  go_ret
  have hb : Blk ((w.alloc (.map #[] 0)).alloc (.cells #[.slice none 0 0, .map (some w.heap.size)] 88)) (w.heap.size + 1) 88 #[.slice none 0 0, .map (some w.heap.size)] := by
    simpa using Blk.new (w.alloc (.map #[] 0)) 88 #[.slice none 0 0, .map (some w.heap.size)]
  have hM : MapN Try.prog 35 (w.alloc (.map #[] 0)) w.heap.size 0 (fun _ => none) := MapN.made w rfl
  have q : Nw (w.alloc (.map #[] 0)) ((w.alloc (.map #[] 0)).alloc (.cells #[.slice none 0 0, .map (some w.heap.size)] 88)) := (Fr.refl _ _).alloc _
  refine ⟨w.heap.size + 1, fun k => k = w.heap.size ∨ k = w.heap.size + 1, rfl, ⟨none, 0, w.heap.size, [], fun _ => False, hb, Own.nil _ _ _, VersC.nil _ _, ?_, .inr rfl, fun k hk => (inA_none k hk).elim, .inl rfl, fun k hk => hk.elim, ⟨inA_none _, by omega⟩, fun k hk => ?_⟩, ((Fr.refl _ w).alloc _).alloc _, fun k hk => ?_⟩
  · exact hM.fr q (fun h => h)
  · simp; omega
  · omega
theorem atV_snoc {l : List Ver} {x : Ver} (hf : findV x.1 l = none) : (fun n => if n = x.1 then some (I64 (l.length : Nat)) else atV l n) = atV (l ++ [x]) := by
  funext n
  unfold atV
  rw [idxV_snoc hf]
  split <;> rfl
set_option maxRecDepth 100000 in
set_option maxHeartbeats 4000000 in
theorem bkPut_any (w : World) (F I' : Nat → Prop) (g : Nat) (l : List Ver) (h : IsBk w F g l) (v : Ver) (A' : Option Addr) (c' : Nat) (hs : Sl w I' A' (rdgsCells v.2.2.2)) (hI' : ∀ k, I' k → ¬ F k) (hsz : VerSz v) (hn : NmWf v.1) (hf : findV v.1 l = none) (hl : l.length ≤ 2000000000) :
    Calls Try.prog 38 #[.pointer (some ⟨g, 0, none⟩), VerV v A' c'] w fun e w' => e = .returned (.tuple #[]) ∧ BkTo w F g (l ++ [v]) w' := by
  obtain ⟨A, cap, hm, cs, I, hb, ho, hv, hM, hFg, hFA, hFm, hFI, ⟨hmA, hmg⟩, hlt⟩ := id h
  have hlen1 : (l ++ [v]).length = l.length + 1 := by simp
  have hat := atV_snoc hf
  obtain ⟨⟨a, b⟩, m, t, rs⟩ := v
  have hrl : rs.length ≤ 1000000000 := hsz.1
  -- the box
  obtain ⟨W1, hW1⟩ : ∃ W1, W1 = w.alloc (.cells #[I64 a, I64 b, .bool m, I64 t, .slice A' rs.length c'] 38) := ⟨_, rfl⟩
  have q01 : Nw w W1 := by rw [hW1]; exact (Fr.refl _ w).alloc _
  have hB : Blk W1 w.heap.size 38 #[I64 a, I64 b, .bool m, I64 t, .slice A' rs.length c'] := by rw [hW1]; exact Blk.new w 38 _
  -- the map
  obtain ⟨W2, hrun, hM2, q12⟩ := (hM.fr q01.drew (fun h => h)).put ru_names Try.underlying84 (by unfold maxLen; omega) (a, b) hn (by unfold atV; rw [idxV_none.2 hf]; rfl) (I64 (l.length : Nat))
  rw [hat] at hM2
  have q02 : Fr (· = hm) w W2 := (Nw.on q01.drew).tr q12
  have HW1 := Lib.hid hW1
  have k0 : W1.drew.cell? ⟨w.heap.size, 0, none⟩ = some (I64 a) := by simpa using hB.cell 0
  have k1 : W1.drew.cell? ⟨w.heap.size, 1, none⟩ = some (I64 b) := by simpa using hB.cell 1
  have g0 : W1.drew.cell? ⟨g, 0, none⟩ = some (.slice A l.length cap) := by simpa using (hb.fr q01.drew (fun h => h)).cell 0
  have g1 : W1.drew.cell? ⟨g, 1, none⟩ = some (.map (some hm)) := by simpa using (hb.fr q01.drew (fun h => h)).cell 1
  clear hW1
  -- behind the map
  have hgm : g ≠ hm := fun e => hmg e.symm
  have hwm : w.heap.size ≠ hm := fun e => by have := hM.lt; omega
  have hB2 := hB.drew.fr q12 hwm
  have hb2 := hb.fr q02 hgm
  have ho2d : Own W2.drew 38 5 A l.length cap cs := ho.fr q02.drew (fun k hk e => hmA (e ▸ hk))
  have ho2 := ho.fr q02 (fun k hk e => hmA (e ▸ hk))
  have hv2 := hv.fr q02 (fun k hk e => (hFI k hk).2.2.2 e)
  have hs2 : Sl W2.drew I' A' (rdgsCells rs) := hs.fr q02.drew (fun k hk e => hI' k hk (by subst e; exact hFm))
  have hcon := copied_any W2.drew I' ((a, b), m, t, rs) A' c' hs2 (by show rs.length ≤ _; omega)
  have hk : ∀ w1, Nw W2.drew w1 → w1.cell? ⟨w.heap.size, 0, none⟩ = some (I64 a) ∧ w1.cell? ⟨w.heap.size, 1, none⟩ = some (I64 b) ∧ w1.cell? ⟨w.heap.size, 2, none⟩ = some (.bool m) ∧ w1.cell? ⟨w.heap.size, 3, none⟩ = some (I64 t) ∧ w1.cell? ⟨w.heap.size, 4, none⟩ = some (.slice A' rs.length c') := fun w1 q => by
    have h := hB2.drew.fr q (fun h => h)
    exact ⟨by simpa using h.cell 0, by simpa using h.cell 1, by simpa using h.cell 2, by simpa using h.cell 3, by simpa using h.cell 4⟩
  have hg : ∀ w1, Nw W2.drew w1 → w1.cell? ⟨g, 0, none⟩ = some (.slice A l.length cap) := fun w1 q => by simpa using (hb2.drew.fr q (fun h => h)).cell 0
  have kk0 := hk _ (Fr.refl _ W2.drew)
  have gg0 := hg _ (Fr.refl _ W2.drew)
  have hone : ∀ A3 c3, ∀ u ∈ verL ((a, b), m, t, rs) A3 c3, u.oneCell' = true := fun A3 c3 u hu => by
    simp only [verL, List.mem_cons, List.not_mem_nil, or_false] at hu
    rcases hu with rfl | rfl | rfl | rfl | rfl <;> rfl
  have hby : (l.length + 1) * 56 ≤ 140737488355328 := by omega
  have hmx : l.length + 1 ≤ maxLen := by unfold maxLen; omega
  -- what the append leaves
  have hap : ∀ (w3 : World) A3 c3 A6 c6 w6, Nw W2.drew w3 → AppTo (w3.alloc (.cells #[I64 a, I64 b, .bool m, I64 t, .slice A3 rs.length c3] 38)) 38 5 A l.length cap 1 cs (verL ((a, b), m, t, rs) A3 c3) A6 c6 w6 →
      (Fr (inA A) W2.drew w6 ∧ Fr (inA A) w3 w6) ∧ Own w6 38 5 A6 (l.length + 1) c6 (cs ++ verL ((a, b), m, t, rs) A3 c3) ∧ ∀ k, inA A6 k → inA A k ∨ w3.heap.size ≤ k := by
    intro w3 A3 c3 A6 c6 w6 q h
    obtain ⟨h1, _, h3⟩ := h
    refine ⟨?_, h1, ?_⟩
    · rcases h3 with ⟨_, _, _, hf⟩ | ⟨_, _, hf⟩
      · exact ⟨(Nw.on (q.alloc _)).tr hf, ((Fr.refl _ w3).alloc _).tr hf⟩
      · exact ⟨(Nw.on (q.alloc _)).tr (Nw.on hf), ((Fr.refl _ w3).alloc _).tr (Nw.on hf)⟩
    · intro k hk
      rcases h3 with ⟨_, rfl, _, _⟩ | ⟨_, rfl, _⟩
      · exact .inl hk
      · right
        rw [(inA_some _ _).1 hk]
        simp
  have hk6 : ∀ w6, Fr (inA A) W2.drew w6 → w6.cell? ⟨w.heap.size, 0, none⟩ = some (I64 a) ∧ w6.cell? ⟨w.heap.size, 1, none⟩ = some (I64 b) ∧ w6.cell? ⟨w.heap.size, 2, none⟩ = some (.bool m) ∧ w6.cell? ⟨w.heap.size, 3, none⟩ = some (I64 t) ∧ w6.cell? ⟨w.heap.size, 4, none⟩ = some (.slice A' rs.length c') := fun w6 f6 => by
    have h := hB2.drew.fr f6 (fun hi => by have := ho.lt _ hi; omega)
    exact ⟨by simpa using h.cell 0, by simpa using h.cell 1, by simpa using h.cell 2, by simpa using h.cell 3, by simpa using h.cell 4⟩
  have hk7 : ∀ w6, Fr (inA A) W2.drew w6 → ∀ u, (w6.setCell ⟨g, 0, none⟩ u).cell? ⟨w.heap.size, 0, none⟩ = some (I64 a) ∧ (w6.setCell ⟨g, 0, none⟩ u).cell? ⟨w.heap.size, 1, none⟩ = some (I64 b) ∧ (w6.setCell ⟨g, 0, none⟩ u).cell? ⟨w.heap.size, 2, none⟩ = some (.bool m) ∧ (w6.setCell ⟨g, 0, none⟩ u).cell? ⟨w.heap.size, 3, none⟩ = some (I64 t) ∧ (w6.setCell ⟨g, 0, none⟩ u).cell? ⟨w.heap.size, 4, none⟩ = some (.slice A' rs.length c') := fun w6 f6 u => by
    have h := (hB2.drew.fr f6 (fun hi => by have := ho.lt _ hi; omega)).far (p := ⟨g, 0, none⟩) (fun e => by have := hb.lt; simp only at e; omega) u
    exact ⟨by simpa using h.cell 0, by simpa using h.cell 1, by simpa using h.cell 2, by simpa using h.cell 3, by simpa using h.cell 4⟩
  have hgl := hb.lt
  have hml := hM.lt
  have hWs : w.heap.size < W2.heap.size := by have := hB2.lt; exact this
  have hend : ∀ (w3 : World) A3 c3 A6 c6 w6, rs.length ≤ c3 → c3 ≤ maxLen → Sl w3 (fun k => W2.drew.heap.size ≤ k) A3 (rdgsCells rs) → Nw W2.drew w3 → Fr (inA A) W2.drew w6 → Fr (inA A) w3 w6 →
      Own w6 38 5 A6 (l.length + 1) c6 (cs ++ verL ((a, b), m, t, rs) A3 c3) → (∀ k, inA A6 k → inA A k ∨ w3.heap.size ≤ k) → BkTo w F g (l ++ [((a, b), m, t, rs)]) (w6.setCell ⟨g, 0, none⟩ (.slice A6 (l.length + 1) c6)) := by
    intro w3 A3 c3 A6 c6 w6 hl3 hm3 hs3 q3 f6 f36 o6 a6
    have hb6 := hb2.drew.fr f6 (ho2.ne_ hb2 (by decide))
    have hAg : ¬ inA A6 g := o6.ne_ hb6 (by decide)
    have f27 : Fr (fun k => inA A k ∨ k = g) W2.drew (w6.setCell ⟨g, 0, none⟩ (.slice A6 (l.length + 1) c6)) := (f6.mono fun k hk => .inl (.inl hk)).setCell (.inl (.inr rfl)) _
    have f27d : Fr (fun k => inA A k ∨ k = g) W2 (w6.setCell ⟨g, 0, none⟩ (.slice A6 (l.length + 1) c6)) := ⟨f27.os, f27.tape, f27.output, f27.size, f27.block⟩
    have f37 : Fr (fun k => inA A k ∨ k = g) w3 (w6.setCell ⟨g, 0, none⟩ (.slice A6 (l.length + 1) c6)) := (f36.mono fun k hk => .inl (.inl hk)).setCell (.inl (.inr rfl)) _
    have hs23 : W2.heap.size ≤ w3.heap.size := q3.size
    have hs37 := f37.size
    have hAl := ho.lt
    have o7 := o6.setCell (p := ⟨g, 0, none⟩) hAg (.slice A6 (l.length + 1) c6)
    generalize hW7 : w6.setCell ⟨g, 0, none⟩ (.slice A6 (l.length + 1) c6) = w7 at *
    have hb7 : Blk w7 g 88 #[.slice A6 (l.length + 1) c6, .map (some hm)] := by rw [← hW7]; exact hb6.set_ 0 _
    refine ⟨fun k => F k ∨ (w.heap.size ≤ k ∧ k < w7.heap.size), ⟨A6, c6, hm, cs ++ verL ((a, b), m, t, rs) A3 c3, fun k => I k ∨ (W2.heap.size ≤ k ∧ k < w3.heap.size), ?_, ?_, ?_, ?_, .inl hFg, fun k hk => ?_, .inl hFm, fun k hk => ?_, ⟨fun hk => ?_, hmg⟩, fun k hk => ?_⟩, ?_, fun k hk => ?_⟩
    · rw [hlen1]; exact hb7
    · rw [hlen1]; exact o7
    · refine VersC.snoc ((hv2.fr (w' := w7) f27d fun k hk => ?_).mono fun k hk _ => .inl hk) ⟨A3, c3, rfl, hl3, hm3, (hs3.mono (F' := fun k => W2.heap.size ≤ k ∧ k < w3.heap.size) fun k hk hk2 => ⟨hk, hk2⟩).fr f37 (fun k hk => ?_) |>.mono fun k hk _ => .inr hk⟩
      · rintro (h1 | h1)
        · exact (hFI k hk).2.2.1 h1
        · exact (hFI k hk).2.1 h1
      · rintro (h1 | h1)
        · have := hAl k h1; omega
        · omega
    · rw [hlen1]
      exact hM2.fr f27d (fun h1 => h1.elim hmA hmg)
    · rcases a6 k hk with h1 | h1
      · exact .inl (hFA k h1)
      · have := o7.lt k hk
        exact .inr ⟨by omega, this⟩
    · rcases hk with h1 | h1
      · obtain ⟨h2, h3, h4, h5⟩ := hFI k h1
        refine ⟨.inl h2, h3, fun h6 => ?_, h5⟩
        rcases a6 k h6 with h7 | h7
        · exact h4 h7
        · have := hlt k h2; omega
      · refine ⟨.inr ⟨by omega, by omega⟩, by omega, fun h6 => ?_, by omega⟩
        rcases a6 k h6 with h7 | h7
        · have := hAl k h7; omega
        · omega
    · rcases a6 hm hk with h7 | h7
      · exact hmA h7
      · omega
    · rcases hk with h1 | h1
      · have := hlt k h1
        have := q02.size
        omega
      · exact h1.2
    · refine (q02.mono fun k hk => .inl (by subst hk; exact hFm)).trans (f27d.mono (S' := F) fun k hk => .inl (hk.elim (hFA k) (fun e => by subst e; exact hFg))) fun k hk => .inl hk
    · exact hk.imp id fun h => h.1
  go_enter Try.func38, Try.ntmps38
  go_wp2_with fail
  rw [← HW1.out]
  refine wp_region_tail 11 (by kernel_rfl) (by kernel_rfl) ?_
  simp only [List.take_succ_cons, List.take_zero, List.drop_succ_cons, List.drop_zero]
  repeat still_step
  refine wpStill_nil ?_
  go_wp2_with fail
  go_region_law (first | (refine step_append2g (by rfl) _ _ _ (by rfl) 56 (.agg #[.int .i64 0, .int .i64 0, .bool false, .int .i64 0, .slice none 0 0]) Try.underlying22 info_ver rfl (by decide) (by rfl) (o3.alloc _) (by rfl) (sl_new w3 38 (verL ((a, b), m, t, rs) A3 c3) _ rfl) rfl (hone A3 c3) hby hmx ?_; intro A6 c6 w6 hap6; obtain ⟨⟨f6, f36⟩, o6, a6⟩ := hap w3 A3 c3 A6 c6 w6 q3 hap6; have hb6 := hb2.drew.fr f6 (ho2.ne_ hb2 (by decide)); have gg6 : w6.cell? ⟨g, 0, none⟩ = some (.slice A l.length cap) := hb6.cell 0; have fg6 := hb6.frozen 0) | (go_simp; go_at_call 44; refine hcon.mono ?_; rintro e w3 ⟨A3, c3, rfl, hl3, hm3, hs3, q3⟩; have kA := fun o => hk _ (q3.alloc o); have gg3 := hg w3 q3; have ggA := fun o => hg _ (q3.alloc o); have o3 := ho2d.fr q3 (fun _ _ h => h)))
  all_goals
    have hend2 := hend w3 A3 c3 A6 c6 w6 hl3 hm3 hs3 q3 f6 f36 o6 a6
    go_wp2_with fail
    go_end0
    exact ⟨rfl, hend2⟩
end Go.Proofs.Ytgmcjfjdjnoljaa
