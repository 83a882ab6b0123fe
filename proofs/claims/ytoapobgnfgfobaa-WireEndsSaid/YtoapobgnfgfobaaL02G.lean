/- WireEnds: a row that turns, read with a fresh list of calls. -/
import Derived.Test.YtoapobgnfgfobaaL02S
import Derived.Test.YtoapobgnfgfobaaNmA
import Derived.Test.YtoapobgnfgfobaaRefC
namespace Go.Proofs.Ytoapobgnfgfobaa
open Go Go.RowKit

/-- WireReads on bytes that stand there, and a fresh list. -/
theorem wr_row (w : World) (F : Nat → Prop) (A : Option Addr) (c : Nat) (bs : List UInt8) (hs : Sl w F A (bs.map B8)) (m : Nat) (hm : bs.length = m) (hm2 : m ≤ 1000) (us : Array Value) (cs : List Nm) (n : Nat) (hu : us.toList = nmCells cs) (hn : cs.length = n) (hn2 : n ≤ 1000) :
    Calls Try.prog 7 #[.slice A m c, .slice (some ⟨w.heap.size, 0, none⟩) n n] (w.alloc (.cells us 85)) fun e w' => e = .returned (.bool true) ∧ Nw w w' := by
  subst hm hn
  have q : Nw w (w.alloc (.cells us 85)) := (Fr.refl _ w).alloc _
  have a := hs.mono (F' := fun x => x < w.heap.size) fun b _ h => h
  have a2 := (a.fr q (fun _ _ h => h)).mono (F' := fun x => x < (w.alloc (.cells us 85)).heap.size) fun b _ h => h
  have b := sl_new w 85 us.toList w.heap.size rfl
  rw [Array.toArray_toList] at b
  have b2 := b.mono (F' := fun x => x < (w.alloc (.cells us 85)).heap.size) fun b _ h => h
  rw [hu] at b2
  refine (wreads_walk _ _ _ _ _ bs cs a2 b2 (by omega) (by omega)).mono ?_
  rintro e w' ⟨rfl, q2⟩
  exact ⟨rfl, q.tr q2⟩
theorem wr_row2 (w : World) (F : Nat → Prop) (A : Option Addr) (c : Nat) (bs : List UInt8) (hs : Sl w F A (bs.map B8)) (m : Nat) (hm : bs.length = m) (hm2 : m ≤ 1000) (x1 x2 x3 x4 : Int) :
    Calls Try.prog 7 #[.slice A m c, .slice (some ⟨w.heap.size, 0, none⟩) 2 2] (w.alloc (.cells #[.int .i64 x1, .int .i64 x2, .int .i64 x3, .int .i64 x4] 85)) fun e w' => e = .returned (.bool true) ∧ Nw w w' :=
  wr_row w F A c bs hs m hm hm2 _ [(x1, x2), (x3, x4)] 2 rfl rfl (by omega)
theorem wr_row1 (w : World) (F : Nat → Prop) (A : Option Addr) (c : Nat) (bs : List UInt8) (hs : Sl w F A (bs.map B8)) (m : Nat) (hm : bs.length = m) (hm2 : m ≤ 1000) (x1 x2 : Int) :
    Calls Try.prog 7 #[.slice A m c, .slice (some ⟨w.heap.size, 0, none⟩) 1 1] (w.alloc (.cells #[.int .i64 x1, .int .i64 x2] 85)) fun e w' => e = .returned (.bool true) ∧ Nw w w' :=
  wr_row w F A c bs hs m hm hm2 _ [(x1, x2)] 1 rfl rfl (by omega)

theorem far_new {w : World} {E : TypeId} {s n c g : Nat} {cs : List Value} (h : Own w E s (some ⟨g, 0, none⟩) n c cs) (k : Nat) (hk : w.heap.size ≤ k) : ∀ b, b = k → ¬ inA (some ⟨g, 0, none⟩) b := by
  intro b hb hi
  have h1 := h.lt g ((inA_some _ _).2 rfl)
  have h2 := (inA_some _ _).1 hi
  simp only at h2
  omega
/-- WireReads on bytes and calls that stand there. -/
theorem wr_two (w : World) (F F' : Nat → Prop) (A A' : Option Addr) (c c' : Nat) (bs : List UInt8) (cs : List Nm) (hs : Sl w F A (bs.map B8)) (hs' : Sl w F' A' (nmCells cs)) (m n : Nat) (hm : bs.length = m) (hm2 : m ≤ 1000) (hn : cs.length = n) (hn2 : n ≤ 1000) :
    Calls Try.prog 7 #[.slice A m c, .slice A' n c'] w fun e w' => e = .returned (.bool true) ∧ Nw w w' := by
  subst hm hn
  exact wreads_walk w A A' c c' bs cs (hs.mono fun b _ h => h) (hs'.mono fun b _ h => h) (by omega) (by omega)

/-- The step over a guarded append in a region that draws its order. -/
theorem step_append2g {P : Program} {E : TypeId} {size n cap : Nat} {A : Option Addr} {cs : List Value} {F : Nat → Prop} {w : World} {ops : Array Oper} {o : Oper} {a : Act} {K : Act → World → Prop} {Q : Exit → Act → World → Prop} {X : Prop} (hw : Region.wanted o (yielded ops a.tmps) = true) (s x : Operand) (t : TypeId)
    (ho : o.op = .call { callee := .builtin .append, args := #[s, x], argTypes := #[t, t] }) (bytes : Nat) (z : Value) (ht : P.underlying t = some (.slice E))
    (hinfo : (P.info? E).map (fun i => (i.zero, i.size, i.bytes)) = some (some z, size, bytes)) (hzs : z.cells.size = size) (hsz : 0 < size)
    (hs : a.eval s = .slice A n cap) (hown : Own w E size A n cap cs) {A2 : Option Addr} {m c : Nat} {news : List Value} (hx : a.eval x = .slice A2 m c) (hsl : Sl w F A2 news) (hl : news.length = m * size) (h1 : ∀ u ∈ news, u.oneCell' = true)
    (hbytes : (n + m) * bytes ≤ 140737488355328) (hmax : n + m ≤ maxLen)
    (h : ∀ A' cap' w', AppTo w E size A n cap m cs news A' cap' w' → K (a.put o.dst (.slice A' (n + m) cap')) w') :
    if Region.wanted o (yielded ops a.tmps) = true then Oper.wp P o a w K Q else X := by
  rw [if_pos hw]
  obtain ⟨A', cap', w', hrun, h2⟩ := run_append_two (P := P) w t o.type bytes z ht hinfo hzs hsz hown hsl hl h1 hbytes hmax (c := c)
  unfold Oper.wp execOp
  simp only [ho, resolve, invoke, builtin, Sem.run_bind, Sem.run_pure, Result.andThen_ok, List.map_toArray, List.map_cons, List.map_nil, hs, hx]
  rw [hrun]
  exact h A' cap' w' h2

/-- The walk over an append behind a guard that says yes. -/
theorem wl_append2w {P : Program} {E : TypeId} {size n cap : Nat} {A : Option Addr} {cs : List Value} {F : Nat → Prop} {w : World} {ops : Array Oper} {rest : List Oper} {o : Oper} {a : Act} {Q : Exit → Act → World → Prop} (hw : Region.wanted o (yielded ops a.tmps) = true) (s x : Operand) (t : TypeId)
    (ho : o.op = .call { callee := .builtin .append, args := #[s, x], argTypes := #[t, t] }) (bytes : Nat) (z : Value) (ht : P.underlying t = some (.slice E))
    (hinfo : (P.info? E).map (fun i => (i.zero, i.size, i.bytes)) = some (some z, size, bytes)) (hzs : z.cells.size = size) (hsz : 0 < size)
    (hs : a.eval s = .slice A n cap) (hown : Own w E size A n cap cs) {A2 : Option Addr} {m c : Nat} {news : List Value} (hx : a.eval x = .slice A2 m c) (hsl : Sl w F A2 news) (hl : news.length = m * size) (h1 : ∀ u ∈ news, u.oneCell' = true)
    (hbytes : (n + m) * bytes ≤ 140737488355328) (hmax : n + m ≤ maxLen)
    (h : ∀ A' cap' w', AppTo w E size A n cap m cs news A' cap' w' → wpList P ops Q rest (a.put o.dst (.slice A' (n + m) cap')) w') :
    wpList P ops Q (o :: rest) a w := by
  refine BigFrame.wpList_want hw fun K hK' => ?_
  obtain ⟨A', cap', w', hrun, h2⟩ := run_append_two (P := P) w t o.type bytes z ht hinfo hzs hsz hown hsl hl h1 hbytes hmax (c := c)
  unfold Oper.wp execOp
  simp only [ho, resolve, invoke, builtin, Sem.run_bind, Sem.run_pure, Result.andThen_ok, List.map_toArray, List.map_cons, List.map_nil, hs, hx]
  rw [hrun]
  exact hK' _ _ (h A' cap' w' h2)

/-- A row of the call's own, of what bytes. -/
def RowM (w : World) (g c m : Nat) : Prop := ∃ bs : List UInt8, bs.length = m ∧ Own w 5 1 (some ⟨g, 0, none⟩) m c (bs.map B8)
theorem RowM.fr {w w' : World} {g c m : Nat} (h : RowM w g c m) (hf : Nw w w') : RowM w' g c m := by
  obtain ⟨bs, hb, ho⟩ := h
  exact ⟨bs, hb, ho.fr hf (fun _ _ h => h)⟩
theorem RowM.cell {w : World} {g c m : Nat} (h : RowM w g c m) (k : Nat) (hk : k < m) : ∃ b : UInt8, w.cell? ⟨g, k, none⟩ = some (B8 b) := by
  obtain ⟨bs, hb, ho⟩ := h
  refine ⟨bs[k], ?_⟩
  rw [ho.cellAt (by omega), List.getElem?_map, List.getElem?_eq_getElem (by omega)]
  rfl
theorem RowM.frozen {w : World} {g c m : Nat} (h : RowM w g c m) (k : Nat) : w.frozen? ⟨g, k, none⟩ = false := by
  obtain ⟨bs, hb, ho⟩ := h
  exact ho.frozenAt k
theorem RowM.store {w : World} {g c m : Nat} (h : RowM w g c m) (k : Nat) (v : Int) (h0 : 0 ≤ v) (h1 : v < 256) : RowM (w.setCell ⟨g, k, none⟩ (.int .u8 v)) g c m := by
  obtain ⟨bs, hb, ho⟩ := h
  have e : Value.int .u8 v = B8 (UInt8.ofNat v.toNat) := by
    show _ = Value.int .u8 ((UInt8.ofNat v.toNat).toNat : Int)
    rw [UInt8.toNat_ofNat', Nat.mod_eq_of_lt (by omega)]
    congr 1
    omega
  rw [e]
  refine ⟨bs.set k (UInt8.ofNat v.toNat), by simpa using hb, ?_⟩
  rw [List.map_set]
  exact ho.store k _
theorem or_byte (b : UInt8) : 0 ≤ bits BinOp.or IntKind.u8 (b.toNat : Int) 128 ∧ bits BinOp.or IntKind.u8 (b.toNat : Int) 128 < 256 := by
  have h : ∀ m : Fin 256, 0 ≤ bits BinOp.or IntKind.u8 ((m.val : Nat) : Int) 128 ∧ bits BinOp.or IntKind.u8 ((m.val : Nat) : Int) 128 < 256 := by decide +kernel
  exact h ⟨b.toNat, b.toNat_lt⟩
theorem and_byte (b : UInt8) : 0 ≤ bits BinOp.and IntKind.u8 (b.toNat : Int) 127 ∧ bits BinOp.and IntKind.u8 (b.toNat : Int) 127 < 256 := by
  rw [andByte]
  omega
def EndIn (w3 : World) (g c m : Nat) (j : Value) (wv : World) : Prop := ∃ i : Nat, i ≤ 3 ∧ j = .int .i64 ((i : Int) - 1) ∧ RowM wv g c m ∧ Nw w3 wv
end Go.Proofs.Ytoapobgnfgfobaa
