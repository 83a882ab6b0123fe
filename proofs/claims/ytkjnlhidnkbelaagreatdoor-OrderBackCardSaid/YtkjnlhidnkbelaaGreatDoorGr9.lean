/- Several texts, laid one behind the other by merge.py: Open Frm FrmB FrmV FrmO. -/
import Derived.Test.YtkjnlhidnkbelaaGreatDoorGr1
import Derived.Deep.Slices
import Derived.SizedLaws
import Derived.ChangeSlices
import Derived.SliceStrings
import Derived.OpenShut
import Derived.ShutString
import Derived.ChangeOld
import Derived.Test.YtkjnlhidnkbelaaGreatDoorGr2
import Derived.Test.YtkjnlhidnkbelaaGreatDoorGr4
/- What comes in, as the words for memory have it. -/
namespace Go.Proofs.YtkjnlhidnkbelaaGreatDoor
open Go Go.RowKit

theorem spot_none {w : World} {a : Addr} {v : Value} (h : w.cell? a = some v) : a.spot = none ∧ a.block < w.heap.size := by
  refine ⟨?_, World.block_lt_of_cell? w a h⟩
  unfold World.cell? at h
  split at h
  · split at h
    · cases h
    · rename_i h2; simpa using h2
  · cases h

/-- A slice of integers that came in, as 'open_ints' gives it. -/
def RowIn (k : IntKind) (w : World) (a : Option Addr) (len cap : Nat) (zs : List Int) : Prop :=
  (a = none ∧ len = 0 ∧ cap = 0 ∧ zs = []) ∨
  ∃ x, a = some x ∧ len ≤ cap ∧ cap ≤ maxLen ∧ zs.length = cap ∧ (∀ i, i < zs.length → w.cell? (x.add i) = some (.int k (zs.getD i 0))) ∧ ∀ n ∈ zs, (Lit.int k n).wf = true

theorem RowIn.sl {k : IntKind} {w : World} {a : Option Addr} {len cap : Nat} {zs : List Int} (h : RowIn k w a len cap zs) : (zs.take len).length = len ∧ len ≤ cap ∧ cap ≤ maxLen ∧ Sl w (· < w.heap.size) a ((zs.take len).map (Value.int k)) := by
  rcases h with ⟨rfl, rfl, rfl, rfl⟩ | ⟨x, rfl, hl, hm, hz, hc, _⟩
  · exact ⟨rfl, Nat.le_refl _, by decide, .inl rfl⟩
  · refine ⟨by rw [List.length_take]; omega, hl, hm, ?_⟩
    by_cases he : zs = []
    · subst he; exact .inl (by simp)
    · have hpos : 0 < zs.length := by cases zs with | nil => exact (he rfl).elim | cons _ _ => simp
      have h0 := hc 0 hpos
      rw [show x.add 0 = x from rfl] at h0
      obtain ⟨hs, hb⟩ := spot_none h0
      obtain ⟨b, o, s⟩ := x
      simp only at hs hb
      subst hs
      refine .inr ⟨b, o, rfl, hb, hb, fun j u hu => ?_⟩
      have hj : j < (zs.take len).length := by
        rcases Nat.lt_or_ge j ((zs.take len).map (Value.int k)).length with h | h
        · simpa using h
        · rw [List.getElem?_eq_none h] at hu; cases hu
      rw [List.length_take] at hj
      have h1 := hc j (by omega)
      rw [Addr.add_lit] at h1
      rw [h1, ← hu]
      simp only [List.getElem?_map, List.getElem?_take]
      rw [if_pos (by omega)]
      simp [List.getD, show j < zs.length by omega]

theorem u8_of_wf {n : Int} (h : (Lit.int .u8 n).wf = true) : 0 ≤ n ∧ n ≤ 255 := by
  simpa [Lit.wf, IntKind.min, IntKind.max, IntKind.signed, IntKind.bits] using h
/-- Bytes that came in. -/
theorem RowIn.u8 {w : World} {a : Option Addr} {len cap : Nat} {zs : List Int} (h : RowIn .u8 w a len cap zs) : ∃ bs : List UInt8, bs.length = len ∧ len ≤ cap ∧ cap ≤ maxLen ∧ Sl w (· < w.heap.size) a (bs.map B8) := by
  obtain ⟨h1, h2, h3, h4⟩ := h.sl
  refine ⟨(zs.take len).map fun n => UInt8.ofNat n.toNat, by simpa using h1, h2, h3, ?_⟩
  have e : ((zs.take len).map fun n => UInt8.ofNat n.toNat).map B8 = (zs.take len).map (Value.int .u8) := by
    rw [List.map_map]
    refine List.map_congr_left fun n hn => ?_
    have hw : (Lit.int .u8 n).wf = true := by
      rcases h with ⟨_, _, _, rfl⟩ | ⟨_, _, _, _, _, _, hw⟩
      · simp at hn
      · exact hw n (List.mem_of_mem_take hn)
    have := u8_of_wf hw
    show Value.int .u8 ((UInt8.ofNat n.toNat).toNat : Int) = _
    rw [UInt8.toNat_ofNat']
    congr 1
    omega
  rw [e]
  exact h4
end Go.Proofs.YtkjnlhidnkbelaaGreatDoor
/- What comes in, of whatever type, as the words for memory have it, with its sizes. -/
namespace Go.Proofs.YtkjnlhidnkbelaaGreatDoor
open Go Go.RowKit Go.ChangeShapes Go.WideShapes Go.Deep

section
variable {H : Type} {enc : TypeId × Value → H} {P : Program} {w : World} {held : Bool} {base : Nat}

/-- All that it weighs is within the reach. -/
def Lighter (P : Program) (t : TypeId) (d : DataW H) : Prop := ∀ m ∈ d.weights P t, m ≤ reachBytes

theorem weightsAll_mem {e : TypeId} : ∀ {l : List (DataW H)} {d : DataW H}, d ∈ l → ∀ m ∈ d.weights P e, m ∈ DataW.weightsAll P e l
  | d0 :: l, d, h, m, hm => by
    simp only [DataW.weightsAll, List.mem_append]
    rcases List.mem_cons.1 h with rfl | h
    · exact .inl hm
    · exact .inr (weightsAll_mem h m hm)
theorem Lighter.of_each {ts : List TypeId} {ds : List (DataW H)} (h : (DataW.weightsEach P ts ds).all (· ≤ reachBytes) = true) {j : Nat} {t : TypeId} {d : DataW H} (ht : ts[j]? = some t) (hd : ds[j]? = some d) : Lighter P t d := fun m hm => by
  have := List.all_eq_true.1 h _ (DataW.weights_mem_each ht hd m hm)
  simpa using this

/-- A slice that came in, its elements one cell each. -/
theorem in_list {α : Type} [Inhabited α] (f : α → Value) (Q : α → Prop) {t e : TypeId} {fuel : Nat} {cs : List Value} {x : DataW H × List MemPlace} (ht : P.underlying t = some (.slice e)) (hc : P.cellsOf e = 1)
    (h : DataW.trod enc P w base (fun _ => true) held fuel t cs = some x) (hw : Lighter P t x.1)
    (each : ∀ n v d pl, DataW.trod enc P w base (fun _ => true) held n e [v] = some (d, pl) → Lighter P e d → ∃ x, v = f x ∧ Q x) :
    ∃ (A : Option Addr) (c : Nat) (l : List α), cs = [.slice A l.length c] ∧ l.length ≤ c ∧ c ≤ maxLen ∧ c * P.bytesOf e ≤ reachBytes ∧ Sl w (· < w.heap.size) A (l.map f) ∧ ∀ x ∈ l, Q x := by
  rcases open_slice1 ht hc h with ⟨rfl, rfl⟩ | ⟨a, len, cap, m, n, V, D, Pl, rfl, _, hl, hm, hmm, rfl, hx⟩
  · exact ⟨none, 0, [], rfl, Nat.le_refl _, by decide, by simp [reachBytes], .inl rfl, by simp⟩
  · simp only [if_true] at hmm
    subst hmm
    have hsz : m * P.bytesOf e ≤ reachBytes := by
      have := hw ((len + (m - len)) * P.bytesOf e) (by simp [DataW.weights, ht])
      rwa [show len + (m - len) = m by omega] at this
    have hel : ∀ i, i < len → ∃ x, V i = f x ∧ Q x := fun i hi => by
      refine each n (V i) (D i) (Pl i) (hx i (by omega)).2 fun k hk => hw k ?_
      simp only [DataW.weights, ht, List.mem_cons, List.mem_append]
      exact .inr (.inl (weightsAll_mem (List.mem_map.2 ⟨i, List.mem_range.2 hi, rfl⟩) k hk))
    obtain ⟨X, hX⟩ := choose_lt (α := α) (p := fun i x => V i = f x ∧ Q x) hel
    refine ⟨some a, m, (List.range len).map X, by simp, by simpa using hl, hm, hsz, ?_, fun x hxm => ?_⟩
    · by_cases hz : len = 0
      · subst hz; exact .inl rfl
      · have h0 := (hx 0 (by omega)).1
        rw [show a.add 0 = a from rfl] at h0
        obtain ⟨hs, hb⟩ := spot_none h0
        obtain ⟨b, o, s⟩ := a
        simp only at hs hb
        subst hs
        refine .inr ⟨b, o, rfl, hb, hb, fun j u hu => ?_⟩
        have hj : j < len := by
          rcases Nat.lt_or_ge j len with h | h
          · exact h
          · rw [List.getElem?_eq_none (by simpa using h)] at hu; cases hu
        have h1 := (hx j (by omega)).1
        rw [Addr.add_lit] at h1
        rw [h1, ← hu]
        simp [hj, (hX j hj).1]
    · obtain ⟨i, hi, rfl⟩ := List.mem_map.1 hxm
      exact (hX i (List.mem_range.1 hi)).2

theorem in_ints {t e : TypeId} {k : IntKind} {fuel : Nat} {cs : List Value} {x : DataW H × List MemPlace} (ht : P.underlying t = some (.slice e)) (he : P.underlying e = some (.int k)) (hc : P.cellsOf e = 1)
    (h : DataW.trod enc P w base (fun _ => true) held fuel t cs = some x) (hw : Lighter P t x.1) :
    ∃ (A : Option Addr) (c : Nat) (l : List Int), cs = [.slice A l.length c] ∧ l.length ≤ c ∧ c ≤ maxLen ∧ c * P.bytesOf e ≤ reachBytes ∧ Sl w (· < w.heap.size) A (l.map (Value.int k)) ∧ ∀ x ∈ l, (Lit.int k x).wf = true :=
  in_list (Value.int k) _ ht hc h hw fun n v d pl hd _ => by
    obtain ⟨z, hz, _, hwf⟩ := DataW.trod_int he hd
    simp at hz
    exact ⟨z, hz, hwf⟩
theorem in_bools {t e : TypeId} {fuel : Nat} {cs : List Value} {x : DataW H × List MemPlace} (ht : P.underlying t = some (.slice e)) (he : P.underlying e = some .bool) (hc : P.cellsOf e = 1)
    (h : DataW.trod enc P w base (fun _ => true) held fuel t cs = some x) (hw : Lighter P t x.1) :
    ∃ (A : Option Addr) (c : Nat) (l : List Bool), cs = [.slice A l.length c] ∧ l.length ≤ c ∧ c ≤ maxLen ∧ c * P.bytesOf e ≤ reachBytes ∧ Sl w (· < w.heap.size) A (l.map Value.bool) := by
  obtain ⟨A, c, l, h1, h2, h3, h4, h5, _⟩ := in_list Value.bool (fun _ => True) ht hc h hw fun n v d pl hd _ => by
    obtain ⟨z, hz, _⟩ := DataW.trod_bool he hd
    simp at hz
    exact ⟨z, hz, trivial⟩
  exact ⟨A, c, l, h1, h2, h3, h4, h5⟩
theorem in_strings {t e : TypeId} {fuel : Nat} {cs : List Value} {x : DataW H × List MemPlace} (ht : P.underlying t = some (.slice e)) (he : P.underlying e = some .string) (hc : P.cellsOf e = 1)
    (h : DataW.trod enc P w base (fun _ => true) held fuel t cs = some x) (hw : Lighter P t x.1) :
    ∃ (A : Option Addr) (c : Nat) (l : List ByteArray), cs = [.slice A l.length c] ∧ l.length ≤ c ∧ c ≤ maxLen ∧ c * P.bytesOf e ≤ reachBytes ∧ Sl w (· < w.heap.size) A (l.map Value.string) ∧ ∀ x ∈ l, x.size ≤ reachBytes :=
  in_list Value.string _ ht hc h hw fun n v d pl hd hwt => by
    obtain ⟨z, hz, hx, _⟩ := DataW.trod_string he hd
    simp at hz
    simp only [Prod.mk.injEq] at hx
    refine ⟨z, hz, ?_⟩
    have := hwt z.data.toList.length (by rw [hx.1]; simp [DataW.weights])
    simpa using this
theorem u8_list (l : List Int) (h : ∀ x ∈ l, (Lit.int .u8 x).wf = true) : ∃ bs : List UInt8, bs.length = l.length ∧ bs.map B8 = l.map (Value.int .u8) := by
  refine ⟨l.map fun n => UInt8.ofNat n.toNat, by simp, ?_⟩
  rw [List.map_map]
  refine List.map_congr_left fun n hn => ?_
  have := u8_of_wf (h n hn)
  show Value.int .u8 ((UInt8.ofNat n.toNat).toNat : Int) = _
  rw [UInt8.toNat_ofNat']
  congr 1
  omega
theorem in_bytes {t e : TypeId} {fuel : Nat} {cs : List Value} {x : DataW H × List MemPlace} (ht : P.underlying t = some (.slice e)) (he : P.underlying e = some (.int .u8)) (hc : P.cellsOf e = 1)
    (h : DataW.trod enc P w base (fun _ => true) held fuel t cs = some x) (hw : Lighter P t x.1) :
    ∃ (A : Option Addr) (c : Nat) (l : List UInt8), cs = [.slice A l.length c] ∧ l.length ≤ c ∧ c ≤ maxLen ∧ c * P.bytesOf e ≤ reachBytes ∧ Sl w (· < w.heap.size) A (l.map B8) := by
  obtain ⟨A, c, l, h1, h2, h3, h4, h5, h6⟩ := in_ints ht he hc h hw
  obtain ⟨bs, hl, hb⟩ := u8_list l h6
  exact ⟨A, c, bs, by rw [hl]; exact h1, by rw [hl]; exact h2, h3, h4, by rw [hb]; exact h5⟩
theorem in_rows {t e q : TypeId} {fuel : Nat} {cs : List Value} {x : DataW H × List MemPlace} (ht : P.underlying t = some (.slice e)) (he : P.underlying e = some (.slice q)) (hq : P.underlying q = some (.int .u8)) (hc : P.cellsOf e = 1) (hcq : P.cellsOf q = 1) (hbq : P.bytesOf q = 1)
    (h : DataW.trod enc P w base (fun _ => true) held fuel t cs = some x) (hw : Lighter P t x.1) :
    ∃ (A : Option Addr) (c : Nat) (vs : List Value) (l : List (List UInt8)), cs = [.slice A l.length c] ∧ l.length ≤ c ∧ c ≤ maxLen ∧ c * P.bytesOf e ≤ reachBytes ∧ Sl w (· < w.heap.size) A vs ∧ RowsV w (· < w.heap.size) vs l ∧ ∀ x ∈ l, x.length ≤ reachBytes := by
  obtain ⟨A, c, l, h1, h2, h3, h4, h5, h6⟩ := in_list (α := Value × List UInt8) Prod.fst (fun x => BytesV w (· < w.heap.size) x.1 x.2 ∧ x.2.length ≤ reachBytes) ht hc h hw fun n v d pl hd hwt => by
    obtain ⟨A, c, l, h1, h2, h3, h4, h5⟩ := in_bytes he hq hcq hd hwt
    simp at h1
    rw [hbq, Nat.mul_one] at h4
    exact ⟨(v, l), rfl, ⟨A, c, h1, h2, h3, h5⟩, Nat.le_trans h2 h4⟩
  refine ⟨A, c, l.map Prod.fst, l.map Prod.snd, by simpa using h1, by simpa using h2, h3, h4, h5, ⟨by simp, fun k hk => ?_⟩, fun x hx => ?_⟩
  · have hk' : k < l.length := by simpa using hk
    exact ⟨(l[k]).1, by simp [hk'], by simpa using (h6 _ (List.getElem_mem hk')).1⟩
  · obtain ⟨y, hy, rfl⟩ := List.mem_map.1 hx
    exact (h6 y hy).2
end
end Go.Proofs.YtkjnlhidnkbelaaGreatDoor
/- What comes in: slices of elements of whatever many cells. -/
namespace Go.Proofs.YtkjnlhidnkbelaaGreatDoor
open Go Go.RowKit Go.ChangeShapes Go.WideShapes Go.Deep

theorem flat_len {α : Type} (f : α → List Value) (C : Nat) (l : List α) (hC : ∀ x ∈ l, (f x).length = C) : ((l.map f).flatten).length = l.length * C := by
  induction l with
  | nil => simp
  | cons x l ih =>
    simp only [List.map_cons, List.flatten_cons, List.length_append, List.length_cons]
    rw [ih (fun y hy => hC y (by simp [hy])), hC x (by simp), Nat.succ_mul, Nat.add_comm]
theorem flat_at {α : Type} (f : α → List Value) (C : Nat) (l : List α) (hC : ∀ x ∈ l, (f x).length = C) (i j : Nat) (hi : i < l.length) (hj : j < C) : ((l.map f).flatten)[i * C + j]? = (f l[i])[j]? := by
  induction l generalizing i with
  | nil => simp at hi
  | cons x l ih =>
    simp only [List.map_cons, List.flatten_cons]
    have hx := hC x (by simp)
    cases i with
    | zero =>
      rw [Nat.zero_mul, Nat.zero_add, List.getElem?_append_left (by omega)]
      rfl
    | succ i =>
      rw [List.getElem?_append_right (by rw [Nat.succ_mul]; omega), hx]
      have e : (i + 1) * C + j - C = i * C + j := by rw [Nat.succ_mul]; omega
      rw [e, ih (fun y hy => hC y (by simp [hy])) i (by simpa using hi)]
      rfl

section
variable {H : Type} {enc : TypeId × Value → H} {P : Program} {w : World} {held : Bool} {base : Nat}
/-- A slice that came in, its elements of so many cells each. -/
theorem in_many {α : Type} [Inhabited α] (f : α → List Value) (Q : α → Prop) {t e : TypeId} {fuel : Nat} {cs : List Value} {x : DataW H × List MemPlace} (C : Nat) (hC0 : 0 < C) (ht : P.underlying t = some (.slice e)) (hc : P.cellsOf e = C)
    (h : DataW.trod enc P w base (fun _ => true) held fuel t cs = some x) (hw : Lighter P t x.1)
    (each : ∀ n cs' d pl, DataW.trod enc P w base (fun _ => true) held n e cs' = some (d, pl) → cs'.length = C → Lighter P e d → ∃ x, cs' = f x ∧ Q x) :
    ∃ (A : Option Addr) (c : Nat) (l : List α), cs = [.slice A l.length c] ∧ l.length ≤ c ∧ c ≤ maxLen ∧ c * P.bytesOf e ≤ reachBytes ∧ Sl w (· < w.heap.size) A ((l.map f).flatten) ∧ (∀ x ∈ l, (f x).length = C) ∧ ∀ x ∈ l, Q x := by
  rcases open_slice ht h with ⟨rfl, rfl⟩ | ⟨a, len, cap, m, n, D, Pl, rfl, _, hl, hm, hmm, rfl, hx⟩
  · exact ⟨none, 0, [], rfl, Nat.le_refl _, by decide, by simp [reachBytes], .inl rfl, by simp, by simp⟩
  · simp only [if_true] at hmm
    subst hmm
    rw [hc] at hx
    have hsz : m * P.bytesOf e ≤ reachBytes := by
      have := hw ((len + (m - len)) * P.bytesOf e) (by simp [DataW.weights, ht])
      rwa [show len + (m - len) = m by omega] at this
    have hel : ∀ i, i < len → ∃ x : α, (w.cells? base (a.add (i * C)) C = some (f x)) ∧ (f x).length = C ∧ Q x := fun i hi => by
      obtain ⟨cs', h1, h2⟩ := hx i (by omega)
      obtain ⟨_, hlen, _⟩ := World.cells?_some h1
      obtain ⟨x, rfl, hq⟩ := each n cs' (D i) (Pl i) h2 hlen fun k hk => hw k (by
        simp only [DataW.weights, ht, List.mem_cons, List.mem_append]
        exact .inr (.inl (weightsAll_mem (List.mem_map.2 ⟨i, List.mem_range.2 hi, rfl⟩) k hk)))
      exact ⟨x, h1, hlen, hq⟩
    obtain ⟨X, hX⟩ := choose_lt (α := α) (p := fun i x => (w.cells? base (a.add (i * C)) C = some (f x)) ∧ (f x).length = C ∧ Q x) hel
    have hC : ∀ x ∈ (List.range len).map X, (f x).length = C := fun x hxm => by
      obtain ⟨i, hi, rfl⟩ := List.mem_map.1 hxm
      exact (hX i (List.mem_range.1 hi)).2.1
    refine ⟨some a, m, (List.range len).map X, by simp, by simpa using hl, hm, hsz, ?_, hC, fun x hxm => ?_⟩
    · by_cases hz : len = 0
      · subst hz; exact .inl rfl
      · have h0 := (World.cells?_some (hX 0 (by omega)).1).2.2 0 hC0
        have hl0 := (hX 0 (by omega)).2.1
        rw [show (a.add (0 * C)).add 0 = a by rw [Nat.zero_mul]; rfl, List.getElem?_eq_getElem (by omega)] at h0
        obtain ⟨hs, hb⟩ := spot_none h0
        obtain ⟨b, o, s⟩ := a
        simp only at hs hb
        subst hs
        refine .inr ⟨b, o, rfl, hb, hb, fun j u hu => ?_⟩
        have hj : j < len * C := by
          rcases Nat.lt_or_ge j (len * C) with h | h
          · exact h
          · rw [List.getElem?_eq_none (by rw [flat_len f C _ hC]; simpa using h)] at hu; cases hu
        have hd : j = j / C * C + j % C := by rw [Nat.mul_comm]; exact (Nat.div_add_mod j C).symm
        have hi : j / C < len := by rw [Nat.div_lt_iff_lt_mul hC0]; exact hj
        have hr : j % C < C := Nat.mod_lt _ hC0
        have h1 := (World.cells?_some (hX (j / C) hi).1).2.2 (j % C) hr
        rw [Go.Deep.add_add, ← hd, Addr.add_lit] at h1
        rw [h1, ← hu]
        have h2 := flat_at f C ((List.range len).map X) hC (j / C) (j % C) (by simpa using hi) hr
        rw [← hd] at h2
        rw [h2]
        simp
    · obtain ⟨i, hi, rfl⟩ := List.mem_map.1 hxm
      exact (hX i (List.mem_range.1 hi)).2.2
end
end Go.Proofs.YtkjnlhidnkbelaaGreatDoor
/- What comes in: reads; verdicts. -/
namespace Go.Proofs.YtkjnlhidnkbelaaGreatDoor
open Go Go.RowKit Go.ChangeShapes Go.WideShapes Go.Deep

section
variable {H : Type} {enc : TypeId × Value → H} {P : Program} {w : World} {held : Bool} {base : Nat}
theorem Lighter.field {e t : TypeId} {fs : Array Field} {parts : List (DataW H)} {d : DataW H} {j : Nat} (h : Lighter P e (.agg parts)) (he : P.underlying e = some (.struct fs)) (ht : (fs.toList.map (·.type))[j]? = some t) (hd : parts[j]? = some d) : Lighter P t d := fun m hm => h m (by
  simp only [DataW.weights, he]
  exact DataW.weights_mem_each ht hd m hm)
theorem i64_wf {n : Int} (h : (Lit.int .i64 n).wf = true) : -9223372036854775808 ≤ n ∧ n ≤ 9223372036854775807 := by
  simpa [Lit.wf, IntKind.min, IntKind.max, IntKind.signed, IntKind.bits] using h
/-- Lengths that a machine can have. -/
def RdgLen (r : Rdg) : Prop := r.1.length ≤ maxLen ∧ r.2.2.length ≤ maxLen
theorem in_reads {t e : TypeId} {f0 f1 f2 : Field} {fuel : Nat} {cs : List Value} {x : DataW H × List MemPlace} (ht : P.underlying t = some (.slice e)) (he : P.underlying e = some (.struct #[f0, f1, f2]))
    (o0 : f0.offset = 0) (o1 : f1.offset = 1) (o2 : f2.offset = 2) (k0 : P.cellsOf f0.type = 1) (k1 : P.cellsOf f1.type = 1) (k2 : P.cellsOf f2.type = 1) (u0 : P.underlying f0.type = some .string) (u1 : P.underlying f1.type = some .bool) (u2 : P.underlying f2.type = some .string) (hc : P.cellsOf e = 3)
    (h : DataW.trod enc P w base (fun _ => true) held fuel t cs = some x) (hw : Lighter P t x.1) :
    ∃ (A : Option Addr) (c : Nat) (l : List Rdg), cs = [.slice A l.length c] ∧ l.length ≤ c ∧ c ≤ maxLen ∧ c * P.bytesOf e ≤ reachBytes ∧ Sl w (· < w.heap.size) A (rdgsCells l) ∧ ∀ r ∈ l, RdgLen r := by
  obtain ⟨A, c, l, h1, h2, h3, h4, h5, _, h7⟩ := in_many rdgCells RdgLen 3 (by omega) ht hc h hw fun n cs' d pl hd hlen _ => by
    obtain ⟨xs, m, _, _, _, hxl, hf⟩ := DataW.trod_struct he hd
    have hf0 := hf 0 f0 rfl
    have hf1 := hf 1 f1 rfl
    have hf2 := hf 2 f2 rfl
    rw [o0, k0] at hf0
    rw [o1, k1] at hf1
    rw [o2, k2] at hf2
    match cs', hlen with
    | [v0, v1, v2], _ =>
      simp only [List.drop_zero, List.take_succ_cons, List.take_zero, List.drop_succ_cons] at hf0 hf1 hf2
      have hx0 : xs[0]? = some (xs[0]'(by simp [hxl])) := List.getElem?_eq_getElem _
      have hx1 : xs[1]? = some (xs[1]'(by simp [hxl])) := List.getElem?_eq_getElem _
      have hx2 : xs[2]? = some (xs[2]'(by simp [hxl])) := List.getElem?_eq_getElem _
      rw [hx0] at hf0
      rw [hx1] at hf1
      rw [hx2] at hf2
      obtain ⟨z0, hz0, _, hs0⟩ := DataW.trod_string u0 hf0
      obtain ⟨z1, hz1, _⟩ := DataW.trod_bool u1 hf1
      obtain ⟨z2, hz2, _, hs2⟩ := DataW.trod_string u2 hf2
      simp at hz0 hz1 hz2
      refine ⟨(z0.data.toList, z1, z2.data.toList), ?_, hs0, hs2⟩
      rw [hz0, hz1, hz2, strV_of z0, strV_of z2]
      rfl
  exact ⟨A, c, l, h1, h2, h3, h4, h5, h7⟩
/-- A verdict's cells, by what it is and where its reads lie. -/
def verF (x : Ver × Option Addr × Nat) : List Value := verL x.1 x.2.1 x.2.2
theorem in_vers {t e nt rt re : TypeId} {f0 f1 f2 f3 n0 n1 g0 g1 g2 : Field} {fuel : Nat} {cs : List Value} {x : DataW H × List MemPlace} (ht : P.underlying t = some (.slice e)) (he : P.underlying e = some (.struct #[f0, f1, f2, f3]))
    (o0 : f0.offset = 0) (o1 : f1.offset = 2) (o2 : f2.offset = 3) (o3 : f3.offset = 4) (k0 : P.cellsOf f0.type = 2) (k1 : P.cellsOf f1.type = 1) (k2 : P.cellsOf f2.type = 1) (k3 : P.cellsOf f3.type = 1) (t0 : f0.type = nt) (t3 : f3.type = rt)
    (u0 : P.underlying nt = some (.struct #[n0, n1])) (u1 : P.underlying f1.type = some .bool) (u2 : P.underlying f2.type = some (.int .i64))
    (no0 : n0.offset = 0) (no1 : n1.offset = 1) (nk0 : P.cellsOf n0.type = 1) (nk1 : P.cellsOf n1.type = 1) (nu0 : P.underlying n0.type = some (.int .i64)) (nu1 : P.underlying n1.type = some (.int .i64))
    (rt1 : P.underlying rt = some (.slice re)) (re1 : P.underlying re = some (.struct #[g0, g1, g2]))
    (ro0 : g0.offset = 0) (ro1 : g1.offset = 1) (ro2 : g2.offset = 2) (rk0 : P.cellsOf g0.type = 1) (rk1 : P.cellsOf g1.type = 1) (rk2 : P.cellsOf g2.type = 1) (ru0 : P.underlying g0.type = some .string) (ru1 : P.underlying g1.type = some .bool) (ru2 : P.underlying g2.type = some .string) (rc : P.cellsOf re = 3) (hc : P.cellsOf e = 5)
    (h : DataW.trod enc P w base (fun _ => true) held fuel t cs = some x) (hw : Lighter P t x.1) :
    ∃ (A : Option Addr) (c : Nat) (l : List Ver) (vcs : List Value), cs = [.slice A l.length c] ∧ l.length ≤ c ∧ c ≤ maxLen ∧ c * P.bytesOf e ≤ reachBytes ∧ Sl w (· < w.heap.size) A vcs ∧ VersC w (· < w.heap.size) l vcs ∧ ∀ v ∈ l, NmWf v.1 ∧ v.2.2.2.length ≤ maxLen ∧ ∀ r ∈ v.2.2.2, RdgLen r := by
  obtain ⟨A, c, l, h1, h2, h3, h4, h5, h6, h7⟩ := in_many verF (fun x => (x.1.2.2.2.length ≤ x.2.2 ∧ x.2.2 ≤ maxLen ∧ Sl w (· < w.heap.size) x.2.1 (rdgsCells x.1.2.2.2)) ∧ NmWf x.1.1 ∧ ∀ r ∈ x.1.2.2.2, RdgLen r) 5 (by omega) ht hc h hw fun n cs' d pl hd hlen hwt => by
    obtain ⟨xs, m, _, hagg, _, hxl, hf⟩ := DataW.trod_struct he hd
    have hf0 := hf 0 f0 rfl
    have hf1 := hf 1 f1 rfl
    have hf2 := hf 2 f2 rfl
    have hf3 := hf 3 f3 rfl
    rw [o0, k0] at hf0
    rw [o1, k1] at hf1
    rw [o2, k2] at hf2
    rw [o3, k3] at hf3
    match cs', hlen with
    | [v0, v1, v2, v3, v4], _ =>
      simp only [List.drop_zero, List.take_succ_cons, List.take_zero, List.drop_succ_cons] at hf0 hf1 hf2 hf3
      have hx0 : xs[0]? = some (xs[0]'(by simp [hxl])) := List.getElem?_eq_getElem _
      have hx1 : xs[1]? = some (xs[1]'(by simp [hxl])) := List.getElem?_eq_getElem _
      have hx2 : xs[2]? = some (xs[2]'(by simp [hxl])) := List.getElem?_eq_getElem _
      have hx3 : xs[3]? = some (xs[3]'(by simp [hxl])) := List.getElem?_eq_getElem _
      rw [hx0, t0] at hf0
      rw [hx1] at hf1
      rw [hx2] at hf2
      rw [hx3, t3] at hf3
      obtain ⟨ys, m2, _, _, _, hyl, hg⟩ := DataW.trod_struct u0 hf0
      have hg0 := hg 0 n0 rfl
      have hg1 := hg 1 n1 rfl
      rw [no0, nk0] at hg0
      rw [no1, nk1] at hg1
      simp only [List.drop_zero, List.take_succ_cons, List.take_zero, List.drop_succ_cons] at hg0 hg1
      have hy0 : ys[0]? = some (ys[0]'(by simp [hyl])) := List.getElem?_eq_getElem _
      have hy1 : ys[1]? = some (ys[1]'(by simp [hyl])) := List.getElem?_eq_getElem _
      rw [hy0] at hg0
      rw [hy1] at hg1
      obtain ⟨z0, hz0, _, w0⟩ := DataW.trod_int nu0 hg0
      obtain ⟨z1, hz1, _, w1⟩ := DataW.trod_int nu1 hg1
      obtain ⟨z2, hz2, _⟩ := DataW.trod_bool u1 hf1
      obtain ⟨z3, hz3, _, _⟩ := DataW.trod_int u2 hf2
      have hag : d = .agg (xs.map (·.1)) := by injection hagg
      rw [hag] at hwt
      have hw3 : Lighter P rt (xs[3]'(by simp [hxl])).1 := hwt.field (j := 3) he (by simp [t3]) (by simp [hxl])
      obtain ⟨A, c, l, r1, r2, r3, _, r5, r6⟩ := in_reads rt1 re1 ro0 ro1 ro2 rk0 rk1 rk2 ru0 ru1 ru2 rc hf3 hw3
      simp at hz0 hz1 hz2 hz3 r1
      refine ⟨(((z0, z1), z2, z3, l), A, c), ?_, ⟨r2, r3, r5⟩, ⟨w0, w1⟩, r6⟩
      rw [hz0, hz1, hz2, hz3, r1]
      rfl
  refine ⟨A, c, l.map (·.1), (l.map verF).flatten, by simpa using h1, by simpa using h2, h3, h4, h5, ⟨?_, fun k hk => ?_⟩, fun v hv => ?_⟩
  · rw [flat_len verF 5 l h6]; simp
  · have hk' : k < l.length := by simpa using hk
    obtain ⟨⟨q1, q2, q3⟩, _, _⟩ := h7 _ (List.getElem_mem hk')
    have hvk : (l.map (·.1))[k] = l[k].1 := by simp
    rw [hvk]
    refine ⟨l[k].2.1, l[k].2.2, ?_, q1, q2, q3⟩
    have hl5 : (verF l[k]).length = 5 := h6 _ (List.getElem_mem hk')
    show _ = verF l[k]
    refine List.ext_getElem? fun j => ?_
    rcases Nat.lt_or_ge j 5 with hj | hj
    · rw [← drop5 _ k j hj, flat_at verF 5 l h6 k j hk' hj]
    · rw [List.getElem?_eq_none (by simp; omega), List.getElem?_eq_none (by omega)]
  · obtain ⟨y, hy, rfl⟩ := List.mem_map.1 hv
    obtain ⟨⟨q1, q2, _⟩, q4, q5⟩ := h7 y hy
    exact ⟨q4, by omega, q5⟩
end
end Go.Proofs.YtkjnlhidnkbelaaGreatDoor
/- What comes in: answers, orders. -/
namespace Go.Proofs.YtkjnlhidnkbelaaGreatDoor
open Go Go.RowKit Go.ChangeShapes Go.WideShapes Go.Deep

section
variable {H : Type} {enc : TypeId × Value → H} {P : Program} {w : World} {held : Bool} {base : Nat}
theorem Lighter.part {e t : TypeId} {fs : Array Field} {parts : List (DataW H)} {j : Nat} {d : DataW H} (h : Lighter P e (.agg parts)) (he : P.underlying e = some (.struct fs)) (ht : (fs.toList.map (·.type))[j]? = some t) (hd : parts[j]? = some d) : Lighter P t d := fun m hm => h m (by
  simp only [DataW.weights, he]
  exact DataW.weights_mem_each ht hd m hm)
theorem fld {e : TypeId} {fs : Array Field} {fuel : Nat} {cs : List Value} {x : DataW H × List MemPlace} (he : P.underlying e = some (.struct fs)) (h : DataW.trod enc P w base (fun _ => true) held fuel e cs = some x) (hw : Lighter P e x.1)
    (i t o k : Nat) {f : Field} (hi : fs[i]? = some f) (ht : f.type = t) (ho : f.offset = o) (hk : P.cellsOf t = k) :
    ∃ n y, DataW.trod enc P w base (fun _ => true) held n t ((cs.drop o).take k) = some y ∧ Lighter P t y.1 := by
  obtain ⟨xs, n, _, rfl, _, hl, hf⟩ := DataW.trod_struct he h
  have h1 := hf i f hi
  obtain ⟨hil, _⟩ := Array.getElem?_eq_some_iff.1 hi
  have hx : xs[i]? = some (xs[i]'(by omega)) := List.getElem?_eq_getElem _
  rw [hx, ht, ho, hk] at h1
  refine ⟨n, _, h1, hw.part (j := i) he (by simp [hi, ht]) (by simp [hl, hil])⟩
theorem wf64 {n : Int} (h : (Lit.int .i64 n).wf = true) : -9223372036854775808 ≤ n ∧ n ≤ 9223372036854775807 := by
  simpa [Lit.wf, IntKind.min, IntKind.max, IntKind.signed, IntKind.bits] using h
theorem strV_is (s : ByteArray) : Value.string s = StrV s.data.toList := by
  show _ = Value.string ⟨s.data.toList.toArray⟩
  rw [Array.toArray_toList]
end
section
variable {H : Type} {enc : TypeId × Value → H} {w : World} {held : Bool} {base : Nat}
theorem in_span {fuel : Nat} {cs : List Value} {x : DataW H × List MemPlace} (h : DataW.trod enc Tryz.prog w base (fun _ => true) held fuel 29 cs = some x) (hl : cs.length = 2) (hw : Lighter Tryz.prog 29 x.1) :
    ∃ a b : List UInt8, cs = [StrV a, StrV b] ∧ a.length ≤ maxLen ∧ b.length ≤ maxLen := by
  match cs, hl with
  | [v0, v1], _ =>
    obtain ⟨n0, y0, h0, _⟩ := fld Tryz.underlying29 h hw 0 9 0 1 rfl rfl rfl (by kernel_rfl)
    obtain ⟨n1, y1, h1, _⟩ := fld Tryz.underlying29 h hw 1 9 1 1 rfl rfl rfl (by kernel_rfl)
    obtain ⟨s0, e0, _, z0⟩ := DataW.trod_string Tryz.underlying9 (show DataW.trod _ _ _ _ _ _ _ _ [v0] = _ from h0)
    obtain ⟨s1, e1, _, z1⟩ := DataW.trod_string Tryz.underlying9 (show DataW.trod _ _ _ _ _ _ _ _ [v1] = _ from h1)
    injection e0 with e0
    injection e1 with e1
    exact ⟨s0.data.toList, s1.data.toList, by rw [e0, e1, strV_is s0, strV_is s1], z0, z1⟩
theorem in_name {fuel : Nat} {cs : List Value} {x : DataW H × List MemPlace} (h : DataW.trod enc Tryz.prog w base (fun _ => true) held fuel 25 cs = some x) (hl : cs.length = 2) (hw : Lighter Tryz.prog 25 x.1) :
    ∃ a b : Int, cs = [I64 a, I64 b] := by
  match cs, hl with
  | [v0, v1], _ =>
    obtain ⟨n0, y0, h0, _⟩ := fld Tryz.underlying25 h hw 0 3 0 1 rfl rfl rfl (by kernel_rfl)
    obtain ⟨n1, y1, h1, _⟩ := fld Tryz.underlying25 h hw 1 3 1 1 rfl rfl rfl (by kernel_rfl)
    obtain ⟨s0, e0, _⟩ := DataW.trod_int Tryz.underlying3 (show DataW.trod _ _ _ _ _ _ _ _ [v0] = _ from h0)
    obtain ⟨s1, e1, _⟩ := DataW.trod_int Tryz.underlying3 (show DataW.trod _ _ _ _ _ _ _ _ [v1] = _ from h1)
    injection e0 with e0
    injection e1 with e1
    exact ⟨s0, s1, by rw [e0, e1]⟩
theorem in_int {fuel : Nat} {v : Value} {x : DataW H × List MemPlace} (h : DataW.trod enc Tryz.prog w base (fun _ => true) held fuel 3 [v] = some x) : ∃ n : Int, v = I64 n ∧ -9223372036854775808 ≤ n ∧ n ≤ 9223372036854775807 := by
  obtain ⟨s0, e0, _, e2⟩ := DataW.trod_int Tryz.underlying3 h
  injection e0 with e0
  exact ⟨s0, e0, wf64 e2⟩
theorem in_errno {fuel : Nat} {v : Value} {x : DataW H × List MemPlace} (h : DataW.trod enc Tryz.prog w base (fun _ => true) held fuel 34 [v] = some x) : ∃ n : Int, v = I64 n := by
  obtain ⟨s0, e0, _⟩ := DataW.trod_int Tryz.underlying34 h
  injection e0 with e0
  exact ⟨s0, e0⟩
theorem in_bool {fuel : Nat} {v : Value} {x : DataW H × List MemPlace} (h : DataW.trod enc Tryz.prog w base (fun _ => true) held fuel 4 [v] = some x) : ∃ b : Bool, v = .bool b := by
  obtain ⟨s0, e0, _⟩ := DataW.trod_bool Tryz.underlying4 h
  injection e0 with e0
  exact ⟨s0, e0⟩
theorem in_str {fuel : Nat} {v : Value} {x : DataW H × List MemPlace} (h : DataW.trod enc Tryz.prog w base (fun _ => true) held fuel 9 [v] = some x) (hw : Lighter Tryz.prog 9 x.1) : ∃ s : List UInt8, v = StrV s ∧ s.length ≤ reachBytes := by
  obtain ⟨z, hz, hx, _⟩ := DataW.trod_string Tryz.underlying9 h
  injection hz with hz
  refine ⟨z.data.toList, hz.trans (strV_is z), ?_⟩
  have := hw z.data.toList.length (by rw [hx]; try simp [DataW.weights])
  simpa using this
theorem in_reads22 {fuel : Nat} {v : Value} {x : DataW H × List MemPlace} (h : DataW.trod enc Tryz.prog w base (fun _ => true) held fuel 27 [v] = some x) (hw : Lighter Tryz.prog 27 x.1) :
    ∃ (A : Option Addr) (c : Nat) (l : List Rdg), v = .slice A l.length c ∧ l.length ≤ c ∧ c ≤ maxLen ∧ Sl w (· < w.heap.size) A (rdgsCells l) ∧ RdgSz l := by
  obtain ⟨A, c, l, h1, h2, h3, _, h5, _, h7⟩ := in_many rdgCells (fun r => r.1.length ≤ reachBytes ∧ r.2.2.length ≤ reachBytes) 3 (by omega) Tryz.underlying27 (by kernel_rfl) h hw fun n cs' d pl hd hlen hwt => by
    match cs', hlen with
    | [v0, v1, v2], _ =>
      obtain ⟨n0, y0, h0, l0⟩ := fld Tryz.underlying93 hd hwt 0 9 0 1 rfl rfl rfl (by kernel_rfl)
      obtain ⟨n1, y1, h1, _⟩ := fld Tryz.underlying93 hd hwt 1 4 1 1 rfl rfl rfl (by kernel_rfl)
      obtain ⟨n2, y2, h2, l2⟩ := fld Tryz.underlying93 hd hwt 2 9 2 1 rfl rfl rfl (by kernel_rfl)
      obtain ⟨a, e0, z0⟩ := in_str (show DataW.trod _ _ _ _ _ _ _ _ [v0] = _ from h0) l0
      obtain ⟨b, e1⟩ := in_bool (show DataW.trod _ _ _ _ _ _ _ _ [v1] = _ from h1)
      obtain ⟨c, e2, z2⟩ := in_str (show DataW.trod _ _ _ _ _ _ _ _ [v2] = _ from h2) l2
      exact ⟨(a, b, c), by rw [e0, e1, e2]; rfl, z0, z2⟩
  injection h1 with h1
  exact ⟨A, c, l, h1, h2, h3, h5, fun r hr => ⟨Nat.le_trans (h7 r hr).1 (by decide), Nat.le_trans (h7 r hr).2 (by decide)⟩⟩
theorem in_answer22 {fuel : Nat} {cs : List Value} {x : DataW H × List MemPlace} (h : DataW.trod enc Tryz.prog w base (fun _ => true) held fuel 41 cs = some x) (hl : cs.length = 9) (hw : Lighter Tryz.prog 41 x.1) :
    ∃ (a : AnsF) (p : Pl), cs = (afA a p).toList ∧ AnsIn w (· < w.heap.size) a p ∧ RdgSz a.reads := by
  match cs, hl with
  | [v0, v1, v2, v3, v4, v5, v6, v7, v8], _ =>
    obtain ⟨n0, y0, h0, _⟩ := fld Tryz.underlying41 h hw 0 34 0 1 rfl rfl rfl (by kernel_rfl)
    obtain ⟨n1, y1, h1, l1⟩ := fld Tryz.underlying41 h hw 1 25 1 2 rfl rfl rfl (by kernel_rfl)
    obtain ⟨n2, y2, h2, _⟩ := fld Tryz.underlying41 h hw 2 4 3 1 rfl rfl rfl (by kernel_rfl)
    obtain ⟨n3, y3, h3, _⟩ := fld Tryz.underlying41 h hw 3 4 4 1 rfl rfl rfl (by kernel_rfl)
    obtain ⟨n4, y4, h4, l4⟩ := fld Tryz.underlying41 h hw 4 27 5 1 rfl rfl rfl (by kernel_rfl)
    obtain ⟨n5, y5, h5, _⟩ := fld Tryz.underlying41 h hw 5 3 6 1 rfl rfl rfl (by kernel_rfl)
    obtain ⟨n6, y6, h6, _⟩ := fld Tryz.underlying41 h hw 6 3 7 1 rfl rfl rfl (by kernel_rfl)
    obtain ⟨n7, y7, h7, l7⟩ := fld Tryz.underlying41 h hw 7 22 8 1 rfl rfl rfl (by kernel_rfl)
    obtain ⟨z0, e0⟩ := in_errno (show DataW.trod _ _ _ _ _ _ _ _ [v0] = _ from h0)
    obtain ⟨a, b, e1⟩ := in_name (show DataW.trod _ _ _ _ _ _ _ _ [v1, v2] = _ from h1) rfl l1
    obtain ⟨z2, e2⟩ := in_bool (show DataW.trod _ _ _ _ _ _ _ _ [v3] = _ from h2)
    obtain ⟨z3, e3⟩ := in_bool (show DataW.trod _ _ _ _ _ _ _ _ [v4] = _ from h3)
    obtain ⟨Ar, cr, rl, e4, r1, r2, r3, r4⟩ := in_reads22 (show DataW.trod _ _ _ _ _ _ _ _ [v5] = _ from h4) l4
    obtain ⟨z5, e5, _⟩ := in_int (show DataW.trod _ _ _ _ _ _ _ _ [v6] = _ from h5)
    obtain ⟨z6, e6, _⟩ := in_int (show DataW.trod _ _ _ _ _ _ _ _ [v7] = _ from h6)
    obtain ⟨A, c, l, e7, hc, hm, _, hs⟩ := in_bytes Tryz.underlying22 Tryz.underlying5 (by kernel_rfl) (show DataW.trod _ _ _ _ _ _ _ _ [v8] = _ from h7) l7
    injection e1 with ea eb
    injection eb with eb
    injection e7 with e7
    exact ⟨⟨z0, (a, b), z2, z3, rl, z5, z6, l⟩, ⟨none, 0, Ar, cr, A, c⟩, by rw [e0, ea, eb, e2, e3, e4, e5, e6, e7], ⟨r3, hs, ⟨r1, r2⟩, ⟨hc, hm⟩⟩, r4⟩
theorem in_u8 {t : TypeId} {fuel : Nat} {v : Value} {x : DataW H × List MemPlace} (ht : Tryz.prog.underlying t = some (.int .u8)) (h : DataW.trod enc Tryz.prog w base (fun _ => true) held fuel t [v] = some x) : ∃ n : Int, v = .int .u8 n ∧ 0 ≤ n ∧ n ≤ 255 := by
  obtain ⟨s0, e0, _, e2⟩ := DataW.trod_int ht h
  injection e0 with e0
  have := u8_of_wf e2
  exact ⟨s0, e0, by omega, by omega⟩
theorem in_acts22 {fuel : Nat} {v : Value} {x : DataW H × List MemPlace} (h : DataW.trod enc Tryz.prog w base (fun _ => true) held fuel 26 [v] = some x) (hw : Lighter Tryz.prog 26 x.1) :
    ∃ (A : Option Addr) (c : Nat) (l : List ActT), v = .slice A l.length c ∧ l.length ≤ c ∧ c ≤ maxLen ∧ c * Tryz.prog.bytesOf 91 ≤ reachBytes ∧ Sl w (· < w.heap.size) A (actsCells l) ∧ ActSz l := by
  haveI : Inhabited ActT := ⟨⟨0, [], [], 0⟩⟩
  obtain ⟨A, c, l, h1, h2, h3, h4, h5, _, h7⟩ := in_many actCells (fun a => (0 ≤ a.kind ∧ a.kind ≤ 255) ∧ a.key.length ≤ reachBytes ∧ a.val.length ≤ reachBytes) 4 (by omega) Tryz.underlying26 (by kernel_rfl) h hw fun n cs' d pl hd hlen hwt => by
    match cs', hlen with
    | [v0, v1, v2, v3], _ =>
      obtain ⟨n0, y0, h0, _⟩ := fld Tryz.underlying91 hd hwt 0 89 0 1 rfl rfl rfl (by kernel_rfl)
      obtain ⟨n1, y1, h1, l1⟩ := fld Tryz.underlying91 hd hwt 1 9 1 1 rfl rfl rfl (by kernel_rfl)
      obtain ⟨n2, y2, h2, l2⟩ := fld Tryz.underlying91 hd hwt 2 9 2 1 rfl rfl rfl (by kernel_rfl)
      obtain ⟨n3, y3, h3, _⟩ := fld Tryz.underlying91 hd hwt 3 3 3 1 rfl rfl rfl (by kernel_rfl)
      obtain ⟨k, e0, z0⟩ := in_u8 Tryz.underlying89 (show DataW.trod _ _ _ _ _ _ _ _ [v0] = _ from h0)
      obtain ⟨a, e1, z1⟩ := in_str (show DataW.trod _ _ _ _ _ _ _ _ [v1] = _ from h1) l1
      obtain ⟨b, e2, z2⟩ := in_str (show DataW.trod _ _ _ _ _ _ _ _ [v2] = _ from h2) l2
      obtain ⟨m, e3, _⟩ := in_int (show DataW.trod _ _ _ _ _ _ _ _ [v3] = _ from h3)
      exact ⟨⟨k, a, b, m⟩, by rw [e0, e1, e2, e3]; rfl, z0, z1, z2⟩
  injection h1 with h1
  exact ⟨A, c, l, h1, h2, h3, h4, h5, fun a ha => ⟨(h7 a ha).1, Nat.le_trans (h7 a ha).2.1 (by decide), Nat.le_trans (h7 a ha).2.2 (by decide)⟩⟩
theorem in_span22 {fuel : Nat} {cs : List Value} {x : DataW H × List MemPlace} (h : DataW.trod enc Tryz.prog w base (fun _ => true) held fuel 29 cs = some x) (hl : cs.length = 2) (hw : Lighter Tryz.prog 29 x.1) :
    ∃ a b : List UInt8, cs = [StrV a, StrV b] ∧ a.length ≤ reachBytes ∧ b.length ≤ reachBytes := by
  match cs, hl with
  | [v0, v1], _ =>
    obtain ⟨n0, y0, h0, l0⟩ := fld Tryz.underlying29 h hw 0 9 0 1 rfl rfl rfl (by kernel_rfl)
    obtain ⟨n1, y1, h1, l1⟩ := fld Tryz.underlying29 h hw 1 9 1 1 rfl rfl rfl (by kernel_rfl)
    obtain ⟨a, e0, z0⟩ := in_str (show DataW.trod _ _ _ _ _ _ _ _ [v0] = _ from h0) l0
    obtain ⟨b, e1, z1⟩ := in_str (show DataW.trod _ _ _ _ _ _ _ _ [v1] = _ from h1) l1
    exact ⟨a, b, by rw [e0, e1], z0, z1⟩
theorem in_order22 {fuel : Nat} {cs : List Value} {x : DataW H × List MemPlace} (h : DataW.trod enc Tryz.prog w base (fun _ => true) held fuel 31 cs = some x) (hl : cs.length = 13) (hw : Lighter Tryz.prog 31 x.1) :
    ∃ (o : OrdF) (p : Pl), cs = (ofA (U8V o.kind) o p).toList ∧ OrdIn w (· < w.heap.size) o p ∧ (0 ≤ o.kind ∧ o.kind ≤ 255) ∧ RdgSz o.reads ∧ ActSz o.acts ∧ p.ca * Tryz.prog.bytesOf 91 ≤ reachBytes ∧ o.lo.length ≤ reachBytes ∧ o.hi.length ≤ reachBytes := by
  match cs, hl with
  | [v0, v1, v2, v3, v4, v5, v6, v7, v8, v9, v10, v11, v12], _ =>
    obtain ⟨n0, y0, h0, _⟩ := fld Tryz.underlying31 h hw 0 23 0 1 rfl rfl rfl (by kernel_rfl)
    obtain ⟨n1, y1, h1, l1⟩ := fld Tryz.underlying31 h hw 1 25 1 2 rfl rfl rfl (by kernel_rfl)
    obtain ⟨n2, y2, h2, _⟩ := fld Tryz.underlying31 h hw 2 3 3 1 rfl rfl rfl (by kernel_rfl)
    obtain ⟨n3, y3, h3, l3⟩ := fld Tryz.underlying31 h hw 3 26 4 1 rfl rfl rfl (by kernel_rfl)
    obtain ⟨n4, y4, h4, _⟩ := fld Tryz.underlying31 h hw 4 4 5 1 rfl rfl rfl (by kernel_rfl)
    obtain ⟨n5, y5, h5, l5⟩ := fld Tryz.underlying31 h hw 5 27 6 1 rfl rfl rfl (by kernel_rfl)
    obtain ⟨n6, y6, h6, _⟩ := fld Tryz.underlying31 h hw 6 3 7 1 rfl rfl rfl (by kernel_rfl)
    obtain ⟨n7, y7, h7, _⟩ := fld Tryz.underlying31 h hw 7 3 8 1 rfl rfl rfl (by kernel_rfl)
    obtain ⟨n8, y8, h8, _⟩ := fld Tryz.underlying31 h hw 8 3 9 1 rfl rfl rfl (by kernel_rfl)
    obtain ⟨n9, y9, h9, l9⟩ := fld Tryz.underlying31 h hw 9 29 10 2 rfl rfl rfl (by kernel_rfl)
    obtain ⟨nb, yb, hb, lb⟩ := fld Tryz.underlying31 h hw 10 22 12 1 rfl rfl rfl (by kernel_rfl)
    obtain ⟨k, e0, z0⟩ := in_u8 Tryz.underlying23 (show DataW.trod _ _ _ _ _ _ _ _ [v0] = _ from h0)
    obtain ⟨a, b, e1⟩ := in_name (show DataW.trod _ _ _ _ _ _ _ _ [v1, v2] = _ from h1) rfl l1
    obtain ⟨z2, e2, _⟩ := in_int (show DataW.trod _ _ _ _ _ _ _ _ [v3] = _ from h2)
    obtain ⟨Aa, ca, al, e3, a1, a2, a3, a4, a5⟩ := in_acts22 (show DataW.trod _ _ _ _ _ _ _ _ [v4] = _ from h3) l3
    obtain ⟨z4, e4⟩ := in_bool (show DataW.trod _ _ _ _ _ _ _ _ [v5] = _ from h4)
    obtain ⟨Ar, cr, rl, e5, r1, r2, r3, r4⟩ := in_reads22 (show DataW.trod _ _ _ _ _ _ _ _ [v6] = _ from h5) l5
    obtain ⟨z6, e6, _⟩ := in_int (show DataW.trod _ _ _ _ _ _ _ _ [v7] = _ from h6)
    obtain ⟨z7, e7, _⟩ := in_int (show DataW.trod _ _ _ _ _ _ _ _ [v8] = _ from h7)
    obtain ⟨z8, e8, _⟩ := in_int (show DataW.trod _ _ _ _ _ _ _ _ [v9] = _ from h8)
    obtain ⟨lo, hi, e9, s1, s2⟩ := in_span22 (show DataW.trod _ _ _ _ _ _ _ _ [v10, v11] = _ from h9) rfl l9
    obtain ⟨A, c, l, eb, hc, hm, _, hs⟩ := in_bytes Tryz.underlying22 Tryz.underlying5 (by kernel_rfl) (show DataW.trod _ _ _ _ _ _ _ _ [v12] = _ from hb) lb
    injection e1 with e1a e1b
    injection e1b with e1b
    injection e9 with e9a e9b
    injection e9b with e9b
    injection eb with eb
    exact ⟨⟨k, (a, b), z2, al, z4, rl, z6, z7, z8, lo, hi, l⟩, ⟨Aa, ca, Ar, cr, A, c⟩, by rw [e0, e1a, e1b, e2, e3, e4, e5, e6, e7, e8, e9a, e9b, eb], ⟨a4, r3, hs, ⟨a1, a2⟩, ⟨r1, r2⟩, ⟨hc, hm⟩⟩, z0, r4, a5, a3, s1, s2⟩
end
end Go.Proofs.YtkjnlhidnkbelaaGreatDoor
