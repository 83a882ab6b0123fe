/- Movers: what the program's mover does with answers: its pieces. -/
import Derived.Test.YtfglibkffcogcaaGreatMoE
namespace Go.Proofs.YtfglibkffcogcaaGreat
open Go Go.RowKit

theorem MvTo.back2 {w W w' : World} {I J : Nat → Prop} {g : Nat} {r : Mv × List AskT} {v : Value} (h : MvTo W J g r v w') (f : Fr (· = g) w W) (hJ : ∀ k, J k → I k ∨ w.heap.size ≤ k) : MvTo w I g r v w' := by
  obtain ⟨h1, ⟨I', h2, h3⟩, h4⟩ := h
  exact ⟨h1.back f.size, ⟨I', h2, fun k hk => (h3 k hk).elim (hJ k) (fun h => .inr (Nat.le_trans f.size h))⟩, f.tr h4⟩
/-- An answer: its bytes are what a mover looks at, and whether it has an error. -/
structure AnT where
  err : Int
  n1 : Int
  n2 : Int
  is : Bool
  cm : Bool
  Ar : Option Addr
  nr : Nat
  cr : Nat
  sc : Int
  st : Int
  bytes : List UInt8
abbrev anA (a : AnT) (A : Option Addr) (c : Nat) : Array Value := #[I64 a.err, I64 a.n1, I64 a.n2, .bool a.is, .bool a.cm, .slice a.Ar a.nr a.cr, I64 a.sc, I64 a.st, .slice A a.bytes.length c]
theorem IsMv.since {w : World} {I : Nat → Prop} {g : Nat} {s : Mv} (h : IsMv w I g s) : ∃ n, w.cell? ⟨g, 16, none⟩ = some (I64 n) ∧ w.frozen? ⟨g, 16, none⟩ = false ∧ IsMv (w.setCell ⟨g, 16, none⟩ (.int .i64 0)) I g { s with since := 0 } := by
  obtain ⟨a, Ao, co, y, Ab, cb, h1, h2, h3, h4, h5, h6, h7, h8, h9, h10⟩ := h
  have f : Fr (· = g) w (w.setCell ⟨g, 16, none⟩ (.int .i64 0)) := (Fr.refl (· = g) w).set1 _ _
  have hnI : ∀ k, I k → ¬ k = g := fun k hk e => h9 (e ▸ hk)
  exact ⟨s.since, by simpa using h1.cell 16, h1.frozen 16, a, Ao, co, y, Ab, cb, h1.set_ 16 _, h2, h3, h4, h5.fr f hnI, h6.fr f hnI, h7, h8, h9, fun k hk => Nat.lt_of_lt_of_le (h10 k hk) f.size⟩
set_option maxRecDepth 100000 in
theorem absorbed_any (w : World) (I : Nat → Prop) (g : Nat) (s : Mv) (x : Sch) (h : IsMv w I g s) (hx : s.works = some x) (hn : 0 ≤ s.next ∧ s.next ≤ 4611686018427387904) (a : AnT) (A : Option Addr) (c : Nat) :
    Calls Tryz.prog 40 #[.pointer (some ⟨g, 0, none⟩), .agg (anA a A c)] w fun e w' => ∃ v, e = .returned v ∧ MvTo w I g (askM s 0 (stepO x.num (if a.err = 0 then 3 else 7))) v w' := by
  obtain ⟨W, hW⟩ : ∃ W, W = w.alloc (.cells (anA a A c) 41) := ⟨_, rfl⟩
  have q0 : Nw w W := by rw [hW]; exact (Fr.refl (fun _ => False) w).alloc _
  have b0 : Blk W w.heap.size 41 (anA a A c) := by rw [hW]; exact Blk.new w _ _
  have c0 : W.cell? ⟨w.heap.size, 0, none⟩ = some (I64 a.err) := by simpa using b0.cell 0
  have hm := h.fr q0 (fun h => h) (fun _ _ h => h)
  have h3 := step_any W I g s x hm hx hn 3 (by omega)
  have h7 := step_any W I g s x hm hx hn 7 (by omega)
  have HW := Lib.hid hW
  clear hW b0
  by_cases he : a.err = 0
  · rw [if_pos he]
    have d : (a.err != 0) = false := by simp [he]
    go_enter Tryz.func40, Tryz.ntmps40
    go_upto_region 1 with (fail)
    rw [← HW.out]
    go_wp2_with fail
    refine h3.mono ?_
    rintro e w1 ⟨v, rfl, hv⟩
    go_wp2_with fail
    go_ret
    exact ⟨_, rfl, hv.back (Nw.on q0)⟩
  · rw [if_neg he]
    have d : (a.err != 0) = true := by simp [he]
    go_enter Tryz.func40, Tryz.ntmps40
    go_upto_region 1 with (fail)
    rw [← HW.out]
    go_wp2_with fail
    refine h7.mono ?_
    rintro e w1 ⟨v, rfl, hv⟩
    go_wp2_with fail
    go_ret
    exact ⟨_, rfl, hv.back (Nw.on q0)⟩
set_option maxRecDepth 100000 in
set_option maxHeartbeats 2000000 in
theorem stepped_any (w : World) (I : Nat → Prop) (g : Nat) (s : Mv) (x : Sch) (b : AskT) (h : IsMv w I g s) (hx : s.works = some x) (hb : s.line = some b) (hn : 0 ≤ s.next ∧ s.next ≤ 4611686018427387904) (a : AnT) (A : Option Addr) (c : Nat) :
    Calls Tryz.prog 41 #[.pointer (some ⟨g, 0, none⟩), .agg (anA a A c)] w fun e w' => ∃ v, e = .returned v ∧ MvTo w I g (if a.err ≠ 0 ∧ b.ord.stage = 4 then askM s 0 (stepO x.num 7) else ({ s with line := none, since := 0 }, [])) v w' := by
  obtain ⟨W, hW⟩ : ∃ W, W = w.alloc (.cells (anA a A c) 41) := ⟨_, rfl⟩
  have q0 : Nw w W := by rw [hW]; exact (Fr.refl (fun _ => False) w).alloc _
  have b0 : Blk W w.heap.size 41 (anA a A c) := by rw [hW]; exact Blk.new w _ _
  have c0 : W.cell? ⟨w.heap.size, 0, none⟩ = some (I64 a.err) := by simpa using b0.cell 0
  have hm := h.fr q0 (fun h => h) (fun _ _ h => h)
  have h7 := step_any W I g s x hm hx hn 7 (by omega)
  have hid := midle_any W I g s hm
  have c11 : W.cell? ⟨g, 11, none⟩ = some (I64 b.ord.stage) := by
    obtain ⟨a', Ao, co, y, Ab, cb, h1, h2, _⟩ := hm
    obtain rfl := (h2 b hb).symm
    simpa using h1.cell 11
  have HW := Lib.hid hW
  clear hW b0
  obtain ⟨r, hr⟩ : ∃ r, (if a.err ≠ 0 ∧ b.ord.stage = 4 then askM s 0 (stepO x.num 7) else ({ s with line := none, since := 0 }, [])) = r := ⟨_, rfl⟩
  rw [hr]
  by_cases he : a.err = 0
  · have e : r = ({ s with line := none, since := 0 }, []) := by rw [← hr, if_neg (fun h => h.1 he)]
    have d : (a.err != 0) = false := by simp [he]
    have E := Lib.hid e
    clear hr e he
    go_enter Tryz.func41, Tryz.ntmps41
    go_upto_region 1 with (fail)
    rw [← HW.out]
    go_wp2_with fail
    refine hid.mono ?_
    rintro e w1 ⟨rfl, hm1, f1⟩
    go_wp2_with fail
    go_ret
    rw [E.out]
    exact ⟨_, rfl, .inl ⟨rfl, rfl⟩, ⟨I, hm1, fun k hk => .inl hk⟩, (Nw.on q0 : Fr (· = g) w W).tr f1⟩
  · have d : (a.err != 0) = true := by simp [he]
    by_cases hs4 : b.ord.stage = 4
    · have e : r = askM s 0 (stepO x.num 7) := by rw [← hr, if_pos ⟨he, hs4⟩]
      have d4 : (b.ord.stage == 4) = true := by simp [hs4]
      have E := Lib.hid e
      clear hr e he hs4
      go_enter Tryz.func41, Tryz.ntmps41
      go_upto_region 1 with (fail)
      rw [← HW.out]
      go_wp2_with fail
      refine h7.mono ?_
      rintro e w1 ⟨v, rfl, hv⟩
      go_wp2_with fail
      go_ret
      rw [E.out]
      exact ⟨_, rfl, hv.back (Nw.on q0)⟩
    · have e : r = ({ s with line := none, since := 0 }, []) := by rw [← hr, if_neg (fun h => hs4 h.2)]
      have d4 : (b.ord.stage == 4) = false := by simp [hs4]
      have E := Lib.hid e
      clear hr e he hs4
      go_enter Tryz.func41, Tryz.ntmps41
      go_upto_region 1 with (fail)
      rw [← HW.out]
      go_wp2_with fail
      refine hid.mono ?_
      rintro e w1 ⟨rfl, hm1, f1⟩
      go_wp2_with fail
      go_ret
      rw [E.out]
      exact ⟨_, rfl, .inl ⟨rfl, rfl⟩, ⟨I, hm1, fun k hk => .inl hk⟩, (Nw.on q0 : Fr (· = g) w W).tr f1⟩
end Go.Proofs.YtfglibkffcogcaaGreat
