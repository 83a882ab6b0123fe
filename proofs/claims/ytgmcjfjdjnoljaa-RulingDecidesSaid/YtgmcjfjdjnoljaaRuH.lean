/- Rulings: what the program's book has of a name; its last index. -/
import Derived.Test.YtgmcjfjdjnoljaaRuG
namespace Go.Proofs.Ytgmcjfjdjnoljaa
open Go Go.RowKit

abbrev zeroC : Array Value := #[.int .i64 0, .int .i64 0, .bool false, .int .i64 0, .slice none 0 0]
theorem zero_one : zeroC.all (·.oneCell') = true := ver_one 0 0 false 0 _ rfl
/-- What is told of a name. -/
def OfTo (w : World) (o : Option Ver) (e : Ending) (w' : World) : Prop :=
  ∃ A c, e = .returned (.tuple #[VerV (o.getD verZero) A c, .bool o.isSome]) ∧ (o.getD verZero).2.2.2.length ≤ c ∧ c ≤ maxLen ∧ Sl w' (fun k => w.heap.size ≤ k) A (rdgsCells (o.getD verZero).2.2.2) ∧ Nw w w'
set_option maxRecDepth 100000 in
set_option maxHeartbeats 4000000 in
theorem bkOf_any (w : World) (F : Nat → Prop) (g : Nat) (l : List Ver) (h : IsBk w F g l) (n : Nm) (hn : NmWf n) (hz : VersSz l) (hl : l.length ≤ 2000000000) :
    Calls Try.prog 22 #[.pointer (some ⟨g, 0, none⟩), nmKey n] w fun e w' => OfTo w (findV n l) e w' := by
  obtain ⟨A, cap, hm, cs, I, hb, ho, hv, hM, hFg, hFA, hFm, hFI, ⟨hmA, hmg⟩, hlt⟩ := id h
  have q0 : Nw w ((w.alloc (.cells #[I64 n.1, I64 n.2] 35)).alloc (.cells zeroC 38)) := ((Fr.refl _ w).alloc _).alloc _
  have h' := h.fr q0 (fun _ _ h => h)
  have hB := (Blk.new w 35 #[I64 n.1, I64 n.2]).alloc (.cells zeroC 38)
  have hD : Blk ((w.alloc (.cells #[I64 n.1, I64 n.2] 35)).alloc (.cells zeroC 38)) (w.heap.size + 1) 38 zeroC := by
    simpa using Blk.new (w.alloc (.cells #[I64 n.1, I64 n.2] 35)) 38 zeroC
  have hz0 : ∀ W : World, (zeroValue 3).run Try.prog W = .ok (.int .i64 0) W := fun W => by kernel_rfl
  obtain ⟨o, hfo⟩ : ∃ o, findV n l = o := ⟨_, rfl⟩
  rw [hfo]
  have HO := Lib.hid hfo
  clear hfo
  go_enter Try.func22, Try.ntmps22
  go_wp2_with (go_at_call 37; refine (bkKnown_any _ _ _ _ h').mono ?_; rintro e w' ⟨rfl, rfl⟩)
  obtain ⟨W, hW⟩ : ∃ W, W = (w.alloc (.cells #[I64 n.1, I64 n.2] 35)).alloc (.cells zeroC 38) := ⟨_, rfl⟩
  rw [← hW] at h' q0 hB hD ⊢
  have HW := Lib.hid hW
  clear hW
  have hbW := hb.fr q0 (fun h => h)
  have hoW := ho.fr q0 (fun _ _ h => h)
  have hvW := hv.fr q0 (fun _ _ h => h)
  have k0 : W.cell? ⟨w.heap.size, 0, none⟩ = some (I64 n.1) := by simpa using hB.cell 0
  have k1 : W.cell? ⟨w.heap.size, 1, none⟩ = some (I64 n.2) := by simpa using hB.cell 1
  have g1 : W.cell? ⟨g, 1, none⟩ = some (.map (some hm)) := by simpa using hbW.cell 1
  have hrun : ∀ j, (Instr.lookup 84 (.map (some hm)) (.agg #[I64 n.1, I64 n.2]) true).run Try.prog (W.drewN j) = .ok (.tuple #[(atV l n).getD (.int .i64 0), .bool (atV l n).isSome]) (W.drewN j) := fun j =>
    (hM.fr (q0.drewN j) (fun h => h)).look ru_names Try.underlying84 (hz0 _) n hn
  cases hi : idxV n l with
  | none =>
    have hfn := idxV_none.1 hi
    have ha : atV l n = none := by unfold atV; rw [hi]; rfl
    rw [ha] at hrun
    simp only [Option.getD_none, Option.isSome_none] at hrun
    have ho0 : o = none := HO.out.symm.trans hfn
    have HO0 := Lib.hid ho0
    clear hi hfn ha ho0
    go_quiet (fail)
    have hDq := hD.drewN nq
    have hE := hDq.row zeroC
    go_wp2_with (refine wpList_store_row rfl 38 _ _ rfl (w.heap.size + 1) _ rfl rfl 38 _ hDq ver_size rfl zero_one ?_)
    refine bodyPost_ret (v := .tuple #[.agg zeroC, .bool false]) ?_ rfl ?_
    · exact results_cell_tmp_row rfl _ _ (w.heap.size + 1) 38 _ (0, 0) _ _ rfl rfl hE Try.underlying38 rfl ver_size
    rw [HO0.out]
    exact ⟨none, 0, rfl, Nat.le_refl _, Nat.zero_le _, Sl.nil _ _ _, (q0.drewN nq).setRow (.inr (by omega)) _⟩
  | some k =>
    obtain ⟨hk, hfk⟩ := idxV_some hi
    have ha : atV l n = some (.int .i64 (k : Int)) := by unfold atV; rw [hi]; rfl
    rw [ha] at hrun
    simp only [Option.getD_some, Option.isSome_some] at hrun
    have ho0 : o = some l[k] := HO.out.symm.trans hfk
    have HO0 := Lib.hid ho0
    obtain ⟨bA, oA, A', c', rfl, hF, hc, _, _, hs'⟩ := hoW.sl.ver hvW hk
    have hzk := hz _ (List.getElem_mem hk)
    have hcon := fun j => copied_any (W.drewN j) I l[k] A' c' (hs'.drewN j) (by have := hzk.1; omega)
    clear hi hfk ha ho0 hzk
    generalize l[k] = v at hc hcon HO0
    go_quiet (fail)
    have hc' : ∀ j u, (verL v A' c')[j]? = some u → (W.drewN nq).cell? ⟨bA, oA + k * 5 + j, none⟩ = some u := hc
    have g0 : (W.drewN nq).cell? ⟨g, 0, none⟩ = some (.slice (some ⟨bA, oA, none⟩) l.length cap) := by simpa using (hbW.drewN nq).cell 0
    go_wp2_with (first | (refine wl_load_cells rfl 38 _ rfl bA (oA + k * 5) rfl (verL v A' c') _ hc' Try.underlying38 rfl ver_size ?_) | (go_at_call 44; refine (hcon nq).mono ?_; rintro e w3 ⟨A3, c3, rfl, hl3, hm3, hs3, q3⟩; have hD3 := (hD.drewN nq).fr q3 (fun h => h); have h13 := ver_one v.1.1 v.1.2 v.2.1 v.2.2.1 (.slice A3 v.2.2.2.length c3) rfl) | (refine wpList_store_row rfl 38 _ _ rfl (w.heap.size + 1) _ rfl rfl 38 _ hD3 ver_size rfl h13 ?_))
    have hE := hD3.row #[I64 v.1.1, I64 v.1.2, .bool v.2.1, I64 v.2.2.1, .slice A3 v.2.2.2.length c3]
    refine bodyPost_ret (v := .tuple #[VerV v A3 c3, .bool true]) ?_ rfl ?_
    · exact results_cell_tmp_row rfl _ _ (w.heap.size + 1) 38 _ (0, 0) _ _ rfl rfl hE Try.underlying38 rfl ver_size
    rw [HO0.out]
    have hWs : w.heap.size + 1 < W.heap.size := hD.lt
    have q4 : Fr (· = w.heap.size + 1) w3 (w3.setRow (w.heap.size + 1) #[I64 v.1.1, I64 v.1.2, .bool v.2.1, I64 v.2.2.1, .slice A3 v.2.2.2.length c3]) := (Fr.refl (· = w.heap.size + 1) w3).setRow (.inl rfl) _
    refine ⟨A3, c3, rfl, hl3, hm3, (hs3.fr q4 fun k hk e => ?_).mono fun k hk _ => ?_, ((q0.drewN nq).tr q3).trans q4 fun k hk => .inr (by omega)⟩
    · have h2 : W.heap.size ≤ k := hk
      omega
    · have h2 : W.heap.size ≤ k := hk
      show w.heap.size ≤ k
      omega
end Go.Proofs.Ytgmcjfjdjnoljaa
