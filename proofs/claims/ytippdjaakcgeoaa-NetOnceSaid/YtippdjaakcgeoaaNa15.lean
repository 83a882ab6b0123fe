/- Lemmas of the walks: Open, Frm, FrmB, FrL, FrN. (Laid together by shake.py.) -/
import Derived.Deep.Slices
import Derived.SizedLaws
import Derived.ChangeSlices
import Derived.SliceStrings
import Derived.OpenShut
import Derived.ShutString
import Derived.ChangeOld
import Derived.Test.YtippdjaakcgeoaaNa02
import Derived.Test.YtippdjaakcgeoaaNa11
set_option linter.unusedVariables false
set_option linter.unusedSimpArgs false
namespace Go.Proofs.Ytippdjaakcgeoaa
open Go Go.RowKit

theorem spot_none {w : World} {a : Addr} {v : Value} (h : w.cell? a = some v) : a.spot = none ∧ a.block < w.heap.size := by
  refine ⟨?_, World.block_lt_of_cell? w a h⟩
  unfold World.cell? at h
  split at h
  · split at h
    · cases h
    · rename_i h2; simpa using h2
  · cases h

/-- A slice of integers that came in, as 'open_ints' gives it. -/
def RowIn (k : IntKind) (w : World) (a : Option Addr) (len cap : Nat) (zs : List Int) : Prop :=
  (a = none ∧ len = 0 ∧ cap = 0 ∧ zs = []) ∨
  ∃ x, a = some x ∧ len ≤ cap ∧ cap ≤ maxLen ∧ zs.length = cap ∧ (∀ i, i < zs.length → w.cell? (x.add i) = some (.int k (zs.getD i 0))) ∧ ∀ n ∈ zs, (Lit.int k n).wf = true

theorem RowIn.sl {k : IntKind} {w : World} {a : Option Addr} {len cap : Nat} {zs : List Int} (h : RowIn k w a len cap zs) : (zs.take len).length = len ∧ len ≤ cap ∧ cap ≤ maxLen ∧ Sl w (· < w.heap.size) a ((zs.take len).map (Value.int k)) := by
  rcases h with ⟨rfl, rfl, rfl, rfl⟩ | ⟨x, rfl, hl, hm, hz, hc, _⟩
  · exact ⟨rfl, Nat.le_refl _, by decide, .inl rfl⟩
  · refine ⟨by rw [List.length_take]; omega, hl, hm, ?_⟩
    by_cases he : zs = []
    · subst he; exact .inl (by simp)
    · have hpos : 0 < zs.length := by cases zs with | nil => exact (he rfl).elim | cons _ _ => simp
      have h0 := hc 0 hpos
      rw [show x.add 0 = x from rfl] at h0
      obtain ⟨hs, hb⟩ := spot_none h0
      obtain ⟨b, o, s⟩ := x
      simp only at hs hb
      subst hs
      refine .inr ⟨b, o, rfl, hb, hb, fun j u hu => ?_⟩
      have hj : j < (zs.take len).length := by
        rcases Nat.lt_or_ge j ((zs.take len).map (Value.int k)).length with h | h
        · simpa using h
        · rw [List.getElem?_eq_none h] at hu; cases hu
      rw [List.length_take] at hj
      have h1 := hc j (by omega)
      rw [Addr.add_lit] at h1
      rw [h1, ← hu]
      simp only [List.getElem?_map, List.getElem?_take]
      rw [if_pos (by omega)]
      simp [List.getD, show j < zs.length by omega]

theorem u8_of_wf {n : Int} (h : (Lit.int .u8 n).wf = true) : 0 ≤ n ∧ n ≤ 255 := by
  simpa [Lit.wf, IntKind.min, IntKind.max, IntKind.signed, IntKind.bits] using h
/-- Bytes that came in. -/
theorem RowIn.u8 {w : World} {a : Option Addr} {len cap : Nat} {zs : List Int} (h : RowIn .u8 w a len cap zs) : ∃ bs : List UInt8, bs.length = len ∧ len ≤ cap ∧ cap ≤ maxLen ∧ Sl w (· < w.heap.size) a (bs.map B8) := by
  obtain ⟨h1, h2, h3, h4⟩ := h.sl
  refine ⟨(zs.take len).map fun n => UInt8.ofNat n.toNat, by simpa using h1, h2, h3, ?_⟩
  have e : ((zs.take len).map fun n => UInt8.ofNat n.toNat).map B8 = (zs.take len).map (Value.int .u8) := by
    rw [List.map_map]
    refine List.map_congr_left fun n hn => ?_
    have hw : (Lit.int .u8 n).wf = true := by
      rcases h with ⟨_, _, _, rfl⟩ | ⟨_, _, _, _, _, _, hw⟩
      · simp at hn
      · exact hw n (List.mem_of_mem_take hn)
    have := u8_of_wf hw
    show Value.int .u8 ((UInt8.ofNat n.toNat).toNat : Int) = _
    rw [UInt8.toNat_ofNat']
    congr 1
    omega
  rw [e]
  exact h4
end Go.Proofs.Ytippdjaakcgeoaa

namespace Go.Proofs.Ytippdjaakcgeoaa
open Go Go.RowKit Go.ChangeShapes Go.WideShapes Go.Deep

section
variable {H : Type} {enc : TypeId × Value → H} {P : Program} {w : World} {held : Bool} {base : Nat}

/-- All that it weighs is within the reach. -/
def Lighter (P : Program) (t : TypeId) (d : DataW H) : Prop := ∀ m ∈ d.weights P t, m ≤ reachBytes

theorem weightsAll_mem {e : TypeId} : ∀ {l : List (DataW H)} {d : DataW H}, d ∈ l → ∀ m ∈ d.weights P e, m ∈ DataW.weightsAll P e l
  | d0 :: l, d, h, m, hm => by
    simp only [DataW.weightsAll, List.mem_append]
    rcases List.mem_cons.1 h with rfl | h
    · exact .inl hm
    · exact .inr (weightsAll_mem h m hm)
theorem Lighter.of_each {ts : List TypeId} {ds : List (DataW H)} (h : (DataW.weightsEach P ts ds).all (· ≤ reachBytes) = true) {j : Nat} {t : TypeId} {d : DataW H} (ht : ts[j]? = some t) (hd : ds[j]? = some d) : Lighter P t d := fun m hm => by
  have := List.all_eq_true.1 h _ (DataW.weights_mem_each ht hd m hm)
  simpa using this

/-- A slice that came in, its elements one cell each. -/
theorem in_list {α : Type} [Inhabited α] (f : α → Value) (Q : α → Prop) {t e : TypeId} {fuel : Nat} {cs : List Value} {x : DataW H × List MemPlace} (ht : P.underlying t = some (.slice e)) (hc : P.cellsOf e = 1)
    (h : DataW.trod enc P w base (fun _ => true) held fuel t cs = some x) (hw : Lighter P t x.1)
    (each : ∀ n v d pl, DataW.trod enc P w base (fun _ => true) held n e [v] = some (d, pl) → Lighter P e d → ∃ x, v = f x ∧ Q x) :
    ∃ (A : Option Addr) (c : Nat) (l : List α), cs = [.slice A l.length c] ∧ l.length ≤ c ∧ c ≤ maxLen ∧ c * P.bytesOf e ≤ reachBytes ∧ Sl w (· < w.heap.size) A (l.map f) ∧ ∀ x ∈ l, Q x := by
  rcases open_slice1 ht hc h with ⟨rfl, rfl⟩ | ⟨a, len, cap, m, n, V, D, Pl, rfl, _, hl, hm, hmm, rfl, hx⟩
  · exact ⟨none, 0, [], rfl, Nat.le_refl _, by decide, by simp [reachBytes], .inl rfl, by simp⟩
  · simp only [if_true] at hmm
    subst hmm
    have hsz : m * P.bytesOf e ≤ reachBytes := by
      have := hw ((len + (m - len)) * P.bytesOf e) (by simp [DataW.weights, ht])
      rwa [show len + (m - len) = m by omega] at this
    have hel : ∀ i, i < len → ∃ x, V i = f x ∧ Q x := fun i hi => by
      refine each n (V i) (D i) (Pl i) (hx i (by omega)).2 fun k hk => hw k ?_
      simp only [DataW.weights, ht, List.mem_cons, List.mem_append]
      exact .inr (.inl (weightsAll_mem (List.mem_map.2 ⟨i, List.mem_range.2 hi, rfl⟩) k hk))
    obtain ⟨X, hX⟩ := choose_lt (α := α) (p := fun i x => V i = f x ∧ Q x) hel
    refine ⟨some a, m, (List.range len).map X, by simp, by simpa using hl, hm, hsz, ?_, fun x hxm => ?_⟩
    · by_cases hz : len = 0
      · subst hz; exact .inl rfl
      · have h0 := (hx 0 (by omega)).1
        rw [show a.add 0 = a from rfl] at h0
        obtain ⟨hs, hb⟩ := spot_none h0
        obtain ⟨b, o, s⟩ := a
        simp only at hs hb
        subst hs
        refine .inr ⟨b, o, rfl, hb, hb, fun j u hu => ?_⟩
        have hj : j < len := by
          rcases Nat.lt_or_ge j len with h | h
          · exact h
          · rw [List.getElem?_eq_none (by simpa using h)] at hu; cases hu
        have h1 := (hx j (by omega)).1
        rw [Addr.add_lit] at h1
        rw [h1, ← hu]
        simp [hj, (hX j hj).1]
    · obtain ⟨i, hi, rfl⟩ := List.mem_map.1 hxm
      exact (hX i (List.mem_range.1 hi)).2

theorem in_ints {t e : TypeId} {k : IntKind} {fuel : Nat} {cs : List Value} {x : DataW H × List MemPlace} (ht : P.underlying t = some (.slice e)) (he : P.underlying e = some (.int k)) (hc : P.cellsOf e = 1)
    (h : DataW.trod enc P w base (fun _ => true) held fuel t cs = some x) (hw : Lighter P t x.1) :
    ∃ (A : Option Addr) (c : Nat) (l : List Int), cs = [.slice A l.length c] ∧ l.length ≤ c ∧ c ≤ maxLen ∧ c * P.bytesOf e ≤ reachBytes ∧ Sl w (· < w.heap.size) A (l.map (Value.int k)) ∧ ∀ x ∈ l, (Lit.int k x).wf = true :=
  in_list (Value.int k) _ ht hc h hw fun n v d pl hd _ => by
    obtain ⟨z, hz, _, hwf⟩ := DataW.trod_int he hd
    simp at hz
    exact ⟨z, hz, hwf⟩
theorem u8_list (l : List Int) (h : ∀ x ∈ l, (Lit.int .u8 x).wf = true) : ∃ bs : List UInt8, bs.length = l.length ∧ bs.map B8 = l.map (Value.int .u8) := by
  refine ⟨l.map fun n => UInt8.ofNat n.toNat, by simp, ?_⟩
  rw [List.map_map]
  refine List.map_congr_left fun n hn => ?_
  have := u8_of_wf (h n hn)
  show Value.int .u8 ((UInt8.ofNat n.toNat).toNat : Int) = _
  rw [UInt8.toNat_ofNat']
  congr 1
  omega
theorem in_bytes {t e : TypeId} {fuel : Nat} {cs : List Value} {x : DataW H × List MemPlace} (ht : P.underlying t = some (.slice e)) (he : P.underlying e = some (.int .u8)) (hc : P.cellsOf e = 1)
    (h : DataW.trod enc P w base (fun _ => true) held fuel t cs = some x) (hw : Lighter P t x.1) :
    ∃ (A : Option Addr) (c : Nat) (l : List UInt8), cs = [.slice A l.length c] ∧ l.length ≤ c ∧ c ≤ maxLen ∧ c * P.bytesOf e ≤ reachBytes ∧ Sl w (· < w.heap.size) A (l.map B8) := by
  obtain ⟨A, c, l, h1, h2, h3, h4, h5, h6⟩ := in_ints ht he hc h hw
  obtain ⟨bs, hl, hb⟩ := u8_list l h6
  exact ⟨A, c, bs, by rw [hl]; exact h1, by rw [hl]; exact h2, h3, h4, by rw [hb]; exact h5⟩
end
end Go.Proofs.Ytippdjaakcgeoaa

namespace Go.Proofs.Ytippdjaakcgeoaa
open Go Go.RowKit Go.ChangeShapes Go.WideShapes Go.Deep

theorem flat_len {α : Type} (f : α → List Value) (C : Nat) (l : List α) (hC : ∀ x ∈ l, (f x).length = C) : ((l.map f).flatten).length = l.length * C := by
  induction l with
  | nil => simp
  | cons x l ih =>
    simp only [List.map_cons, List.flatten_cons, List.length_append, List.length_cons]
    rw [ih (fun y hy => hC y (by simp [hy])), hC x (by simp), Nat.succ_mul, Nat.add_comm]
theorem flat_at {α : Type} (f : α → List Value) (C : Nat) (l : List α) (hC : ∀ x ∈ l, (f x).length = C) (i j : Nat) (hi : i < l.length) (hj : j < C) : ((l.map f).flatten)[i * C + j]? = (f l[i])[j]? := by
  induction l generalizing i with
  | nil => simp at hi
  | cons x l ih =>
    simp only [List.map_cons, List.flatten_cons]
    have hx := hC x (by simp)
    cases i with
    | zero =>
      rw [Nat.zero_mul, Nat.zero_add, List.getElem?_append_left (by omega)]
      rfl
    | succ i =>
      rw [List.getElem?_append_right (by rw [Nat.succ_mul]; omega), hx]
      have e : (i + 1) * C + j - C = i * C + j := by rw [Nat.succ_mul]; omega
      rw [e, ih (fun y hy => hC y (by simp [hy])) i (by simpa using hi)]
      rfl

section
variable {H : Type} {enc : TypeId × Value → H} {P : Program} {w : World} {held : Bool} {base : Nat}
/-- A slice that came in, its elements of so many cells each. -/
theorem in_many {α : Type} [Inhabited α] (f : α → List Value) (Q : α → Prop) {t e : TypeId} {fuel : Nat} {cs : List Value} {x : DataW H × List MemPlace} (C : Nat) (hC0 : 0 < C) (ht : P.underlying t = some (.slice e)) (hc : P.cellsOf e = C)
    (h : DataW.trod enc P w base (fun _ => true) held fuel t cs = some x) (hw : Lighter P t x.1)
    (each : ∀ n cs' d pl, DataW.trod enc P w base (fun _ => true) held n e cs' = some (d, pl) → cs'.length = C → Lighter P e d → ∃ x, cs' = f x ∧ Q x) :
    ∃ (A : Option Addr) (c : Nat) (l : List α), cs = [.slice A l.length c] ∧ l.length ≤ c ∧ c ≤ maxLen ∧ c * P.bytesOf e ≤ reachBytes ∧ Sl w (· < w.heap.size) A ((l.map f).flatten) ∧ (∀ x ∈ l, (f x).length = C) ∧ ∀ x ∈ l, Q x := by
  rcases open_slice ht h with ⟨rfl, rfl⟩ | ⟨a, len, cap, m, n, D, Pl, rfl, _, hl, hm, hmm, rfl, hx⟩
  · exact ⟨none, 0, [], rfl, Nat.le_refl _, by decide, by simp [reachBytes], .inl rfl, by simp, by simp⟩
  · simp only [if_true] at hmm
    subst hmm
    rw [hc] at hx
    have hsz : m * P.bytesOf e ≤ reachBytes := by
      have := hw ((len + (m - len)) * P.bytesOf e) (by simp [DataW.weights, ht])
      rwa [show len + (m - len) = m by omega] at this
    have hel : ∀ i, i < len → ∃ x : α, (w.cells? base (a.add (i * C)) C = some (f x)) ∧ (f x).length = C ∧ Q x := fun i hi => by
      obtain ⟨cs', h1, h2⟩ := hx i (by omega)
      obtain ⟨_, hlen, _⟩ := World.cells?_some h1
      obtain ⟨x, rfl, hq⟩ := each n cs' (D i) (Pl i) h2 hlen fun k hk => hw k (by
        simp only [DataW.weights, ht, List.mem_cons, List.mem_append]
        exact .inr (.inl (weightsAll_mem (List.mem_map.2 ⟨i, List.mem_range.2 hi, rfl⟩) k hk)))
      exact ⟨x, h1, hlen, hq⟩
    obtain ⟨X, hX⟩ := choose_lt (α := α) (p := fun i x => (w.cells? base (a.add (i * C)) C = some (f x)) ∧ (f x).length = C ∧ Q x) hel
    have hC : ∀ x ∈ (List.range len).map X, (f x).length = C := fun x hxm => by
      obtain ⟨i, hi, rfl⟩ := List.mem_map.1 hxm
      exact (hX i (List.mem_range.1 hi)).2.1
    refine ⟨some a, m, (List.range len).map X, by simp, by simpa using hl, hm, hsz, ?_, hC, fun x hxm => ?_⟩
    · by_cases hz : len = 0
      · subst hz; exact .inl rfl
      · have h0 := (World.cells?_some (hX 0 (by omega)).1).2.2 0 hC0
        have hl0 := (hX 0 (by omega)).2.1
        rw [show (a.add (0 * C)).add 0 = a by rw [Nat.zero_mul]; rfl, List.getElem?_eq_getElem (by omega)] at h0
        obtain ⟨hs, hb⟩ := spot_none h0
        obtain ⟨b, o, s⟩ := a
        simp only at hs hb
        subst hs
        refine .inr ⟨b, o, rfl, hb, hb, fun j u hu => ?_⟩
        have hj : j < len * C := by
          rcases Nat.lt_or_ge j (len * C) with h | h
          · exact h
          · rw [List.getElem?_eq_none (by rw [flat_len f C _ hC]; simpa using h)] at hu; cases hu
        have hd : j = j / C * C + j % C := by rw [Nat.mul_comm]; exact (Nat.div_add_mod j C).symm
        have hi : j / C < len := by rw [Nat.div_lt_iff_lt_mul hC0]; exact hj
        have hr : j % C < C := Nat.mod_lt _ hC0
        have h1 := (World.cells?_some (hX (j / C) hi).1).2.2 (j % C) hr
        rw [Go.Deep.add_add, ← hd, Addr.add_lit] at h1
        rw [h1, ← hu]
        have h2 := flat_at f C ((List.range len).map X) hC (j / C) (j % C) (by simpa using hi) hr
        rw [← hd] at h2
        rw [h2]
        simp
    · obtain ⟨i, hi, rfl⟩ := List.mem_map.1 hxm
      exact (hX i (List.mem_range.1 hi)).2.2
end
end Go.Proofs.Ytippdjaakcgeoaa

namespace Go.Proofs.Ytippdjaakcgeoaa
open Go Go.RowKit Go.ChangeShapes Go.WideShapes Go.Deep
set_option linter.unusedVariables false

section
variable {H : Type} {enc : TypeId × Value → H} {P : Program} {w : World} {held : Bool} {base : Nat}
theorem Lighter.part {e t : TypeId} {fs : Array Field} {parts : List (DataW H)} {j : Nat} {d : DataW H} (h : Lighter P e (.agg parts)) (he : P.underlying e = some (.struct fs)) (ht : (fs.toList.map (·.type))[j]? = some t) (hd : parts[j]? = some d) : Lighter P t d := fun m hm => h m (by
  simp only [DataW.weights, he]
  exact DataW.weights_mem_each ht hd m hm)
theorem fld {e : TypeId} {fs : Array Field} {fuel : Nat} {cs : List Value} {x : DataW H × List MemPlace} (he : P.underlying e = some (.struct fs)) (h : DataW.trod enc P w base (fun _ => true) held fuel e cs = some x) (hw : Lighter P e x.1)
    (i t o k : Nat) {f : Field} (hi : fs[i]? = some f) (ht : f.type = t) (ho : f.offset = o) (hk : P.cellsOf t = k) :
    ∃ n y, DataW.trod enc P w base (fun _ => true) held n t ((cs.drop o).take k) = some y ∧ Lighter P t y.1 := by
  obtain ⟨xs, n, _, rfl, _, hl, hf⟩ := DataW.trod_struct he h
  have h1 := hf i f hi
  obtain ⟨hil, _⟩ := Array.getElem?_eq_some_iff.1 hi
  have hx : xs[i]? = some (xs[i]'(by omega)) := List.getElem?_eq_getElem _
  rw [hx, ht, ho, hk] at h1
  refine ⟨n, _, h1, hw.part (j := i) he (by simp [hi, ht]) (by simp [hl, hil])⟩
theorem u8_of_wf2 {z : Int} (h : (Lit.int .u8 z).wf = true) : 0 ≤ z ∧ z ≤ 255 := by
  have := h
  simp [Lit.wf, IntKind.min, IntKind.max, IntKind.signed, IntKind.bits] at this
  omega
end
instance : Inhabited EntM := ⟨entMZ⟩
instance : Inhabited LetM := ⟨letMZ⟩
section
variable {H : Type} {enc : TypeId × Value → H} {w : World} {held : Bool} {base : Nat}
theorem in_int {fuel : Nat} {v : Value} {x : DataW H × List MemPlace} (h : DataW.trod enc Try.prog w base (fun _ => true) held fuel 3 [v] = some x) : ∃ n : Int, v = I64 n := by
  obtain ⟨s0, e0, _, e2⟩ := DataW.trod_int Try.underlying3 h
  injection e0 with e0
  exact ⟨s0, e0⟩
theorem in_u8 {t : TypeId} {fuel : Nat} {v : Value} {x : DataW H × List MemPlace} (ht : Try.prog.underlying t = some (.int .u8)) (h : DataW.trod enc Try.prog w base (fun _ => true) held fuel t [v] = some x) : ∃ n : Int, v = .int .u8 n ∧ 0 ≤ n ∧ n ≤ 255 := by
  obtain ⟨s0, e0, _, e2⟩ := DataW.trod_int ht h
  injection e0 with e0
  have := u8_of_wf2 e2
  exact ⟨s0, e0, by omega, by omega⟩
theorem in_bool {fuel : Nat} {v : Value} {x : DataW H × List MemPlace} (h : DataW.trod enc Try.prog w base (fun _ => true) held fuel 4 [v] = some x) : ∃ b : Bool, v = .bool b := by
  obtain ⟨s0, e0, _⟩ := DataW.trod_bool Try.underlying4 h
  injection e0 with e0
  exact ⟨s0, e0⟩
theorem in_ls8 {fuel : Nat} {v : Value} {x : DataW H × List MemPlace} (h : DataW.trod enc Try.prog w base (fun _ => true) held fuel 38 [v] = some x) (hw : Lighter Try.prog 38 x.1) :
    ∃ s : Ls UInt8, v = s.v ∧ LsIn w (· < w.heap.size) bytesC s ∧ s.l.length ≤ 1125899906842624 := by
  obtain ⟨A, c, l, e7, hc, hm, hr, hs⟩ := in_bytes Try.underlying38 Try.underlying5 (by kernel_rfl) h hw
  injection e7 with e7
  have hb : Try.prog.bytesOf 5 = 1 := by kernel_rfl
  have h2 : reachBytes = 140737488351232 := rfl
  rw [hb, h2] at hr
  exact ⟨⟨A, c, l⟩, e7, ⟨hs, hc, hm⟩, by show l.length ≤ _; omega⟩
theorem in_lsI {fuel : Nat} {v : Value} {x : DataW H × List MemPlace} (h : DataW.trod enc Try.prog w base (fun _ => true) held fuel 33 [v] = some x) (hw : Lighter Try.prog 33 x.1) :
    ∃ s : Ls Int, v = s.v ∧ LsIn w (· < w.heap.size) intsC s ∧ s.l.length ≤ 1125899906842624 := by
  obtain ⟨A, c, l, e7, hc, hm, hr, hs, _⟩ := in_ints Try.underlying33 Try.underlying3 (by kernel_rfl) h hw
  injection e7 with e7
  have hb : Try.prog.bytesOf 3 = 8 := by kernel_rfl
  have h2 : reachBytes = 140737488351232 := rfl
  rw [hb, h2] at hr
  exact ⟨⟨A, c, l⟩, e7, ⟨hs, hc, hm⟩, by show l.length ≤ _; omega⟩
theorem in_cfg {fuel : Nat} {cs : List Value} {x : DataW H × List MemPlace} (h : DataW.trod enc Try.prog w base (fun _ => true) held fuel 35 cs = some x) (hl : cs.length = 4) (hw : Lighter Try.prog 35 x.1) :
    ∃ c : CfgM, cs = cfgL c ∧ CfgIn w (· < w.heap.size) c ∧ CfgBd c := by
  match cs, hl with
  | [v0, v1, v2, v3], _ =>
    obtain ⟨n0, y0, h0, l0⟩ := fld Try.underlying35 h hw 0 33 0 1 rfl rfl rfl (by kernel_rfl)
    obtain ⟨n1, y1, h1, l1⟩ := fld Try.underlying35 h hw 1 33 1 1 rfl rfl rfl (by kernel_rfl)
    obtain ⟨n2, y2, h2, l2⟩ := fld Try.underlying35 h hw 2 33 2 1 rfl rfl rfl (by kernel_rfl)
    obtain ⟨n3, y3, h3, l3⟩ := fld Try.underlying35 h hw 3 33 3 1 rfl rfl rfl (by kernel_rfl)
    obtain ⟨s0, e0, i0, b0⟩ := in_lsI (show DataW.trod _ _ _ _ _ _ _ _ [v0] = _ from h0) l0
    obtain ⟨s1, e1, i1, b1⟩ := in_lsI (show DataW.trod _ _ _ _ _ _ _ _ [v1] = _ from h1) l1
    obtain ⟨s2, e2, i2, b2⟩ := in_lsI (show DataW.trod _ _ _ _ _ _ _ _ [v2] = _ from h2) l2
    obtain ⟨s3, e3, i3, b3⟩ := in_lsI (show DataW.trod _ _ _ _ _ _ _ _ [v3] = _ from h3) l3
    exact ⟨⟨s0, s1, s2, s3⟩, by rw [e0, e1, e2, e3], ⟨i0, i1, i2, i3⟩, ⟨b0, b1, b2, b3⟩⟩
theorem in_ents {fuel : Nat} {v : Value} {x : DataW H × List MemPlace} (h : DataW.trod enc Try.prog w base (fun _ => true) held fuel 32 [v] = some x) (hw : Lighter Try.prog 32 x.1) :
    ∃ s : Ls EntM, v = s.v ∧ LsIn w (· < w.heap.size) entsC s ∧ s.l.length ≤ 1125899906842624 ∧ ∀ e ∈ s.l, EntIn w (· < w.heap.size) e ∧ EntBd e := by
  obtain ⟨A, c, l, h1, h2, h3, h4, h5, _, h7⟩ := in_many entF (fun e => EntIn w (· < w.heap.size) e ∧ EntBd e) 7 (by omega) Try.underlying32 (by kernel_rfl) h hw fun n cs' d pl hd hlen hwt => by
    match cs', hlen with
    | [v0, v1, v2, v3, v4, v5, v6], _ =>
      obtain ⟨n0, y0, h0, _⟩ := fld Try.underlying60 hd hwt 0 3 0 1 rfl rfl rfl (by kernel_rfl)
      obtain ⟨n1, y1, h1, _⟩ := fld Try.underlying60 hd hwt 1 58 1 1 rfl rfl rfl (by kernel_rfl)
      obtain ⟨n2, y2, h2, l2⟩ := fld Try.underlying60 hd hwt 2 38 2 1 rfl rfl rfl (by kernel_rfl)
      obtain ⟨n3, y3, h3, l3⟩ := fld Try.underlying60 hd hwt 3 35 3 4 rfl rfl rfl (by kernel_rfl)
      obtain ⟨t, e0⟩ := in_int (show DataW.trod _ _ _ _ _ _ _ _ [v0] = _ from h0)
      obtain ⟨k, e1, z1⟩ := in_u8 Try.underlying58 (show DataW.trod _ _ _ _ _ _ _ _ [v1] = _ from h1)
      obtain ⟨s, e2, i2, b2⟩ := in_ls8 (show DataW.trod _ _ _ _ _ _ _ _ [v2] = _ from h2) l2
      obtain ⟨c, e3, i3, b3⟩ := in_cfg (show DataW.trod _ _ _ _ _ _ _ _ [v3, v4, v5, v6] = _ from h3) rfl l3
      injection e3 with a0 e3
      injection e3 with a1 e3
      injection e3 with a2 e3
      injection e3 with a3 e3
      exact ⟨⟨t, k, s, c⟩, by rw [e0, e1, e2, a0, a1, a2, a3]; rfl, ⟨z1, i2, i3⟩, ⟨b2, b3⟩⟩
  injection h1 with h1
  have hb : Try.prog.bytesOf 60 = 136 := by kernel_rfl
  have hr : reachBytes = 140737488351232 := rfl
  rw [hb, hr] at h4
  exact ⟨⟨A, c, l⟩, h1, ⟨h5, h2, h3⟩, by show l.length ≤ _; omega, h7⟩
theorem in_letter {fuel : Nat} {cs : List Value} {x : DataW H × List MemPlace} (h : DataW.trod enc Try.prog w base (fun _ => true) held fuel 40 cs = some x) (hl : cs.length = 20) (hw : Lighter Try.prog 40 x.1) :
    ∃ y : LetM, cs = letL y ∧ LetIn w (· < w.heap.size) y ∧ LetBd y := by
  match cs, hl with
  | [v0, v1, v2, v3, v4, v5, v6, v7, v8, v9, v10, v11, v12, v13, v14, v15, v16, v17, v18, v19], _ =>
    obtain ⟨n0, y0, h0, _⟩ := fld Try.underlying40 h hw 0 31 0 1 rfl rfl rfl (by kernel_rfl)
    obtain ⟨n1, y1, h1, _⟩ := fld Try.underlying40 h hw 1 3 1 1 rfl rfl rfl (by kernel_rfl)
    obtain ⟨n2, y2, h2, _⟩ := fld Try.underlying40 h hw 2 3 2 1 rfl rfl rfl (by kernel_rfl)
    obtain ⟨n3, y3, h3, _⟩ := fld Try.underlying40 h hw 3 3 3 1 rfl rfl rfl (by kernel_rfl)
    obtain ⟨n4, y4, h4, _⟩ := fld Try.underlying40 h hw 4 3 4 1 rfl rfl rfl (by kernel_rfl)
    obtain ⟨n5, y5, h5, _⟩ := fld Try.underlying40 h hw 5 3 5 1 rfl rfl rfl (by kernel_rfl)
    obtain ⟨n6, y6, h6, _⟩ := fld Try.underlying40 h hw 6 3 6 1 rfl rfl rfl (by kernel_rfl)
    obtain ⟨n7, y7, h7, _⟩ := fld Try.underlying40 h hw 7 3 7 1 rfl rfl rfl (by kernel_rfl)
    obtain ⟨n8, y8, h8, _⟩ := fld Try.underlying40 h hw 8 4 8 1 rfl rfl rfl (by kernel_rfl)
    obtain ⟨n9, y9, h9, l9⟩ := fld Try.underlying40 h hw 9 32 9 1 rfl rfl rfl (by kernel_rfl)
    obtain ⟨n10, y10, h10, l10⟩ := fld Try.underlying40 h hw 10 37 10 6 rfl rfl rfl (by kernel_rfl)
    obtain ⟨n11, y11, h11, _⟩ := fld Try.underlying40 h hw 11 3 16 1 rfl rfl rfl (by kernel_rfl)
    obtain ⟨n12, y12, h12, _⟩ := fld Try.underlying40 h hw 12 3 17 1 rfl rfl rfl (by kernel_rfl)
    obtain ⟨n13, y13, h13, _⟩ := fld Try.underlying40 h hw 13 3 18 1 rfl rfl rfl (by kernel_rfl)
    obtain ⟨n14, y14, h14, l14⟩ := fld Try.underlying40 h hw 14 38 19 1 rfl rfl rfl (by kernel_rfl)
    have h10' : DataW.trod _ _ _ _ _ _ _ _ [v10, v11, v12, v13, v14, v15] = _ := h10
    obtain ⟨m0, u0, g0, _⟩ := fld Try.underlying37 h10' l10 0 3 0 1 rfl rfl rfl (by kernel_rfl)
    obtain ⟨m1, u1, g1, _⟩ := fld Try.underlying37 h10' l10 1 3 1 1 rfl rfl rfl (by kernel_rfl)
    obtain ⟨m2, u2, g2, k2⟩ := fld Try.underlying37 h10' l10 2 35 2 4 rfl rfl rfl (by kernel_rfl)
    obtain ⟨z0, e0, k0⟩ := in_u8 Try.underlying31 (show DataW.trod _ _ _ _ _ _ _ _ [v0] = _ from h0)
    obtain ⟨z1, e1⟩ := in_int (show DataW.trod _ _ _ _ _ _ _ _ [v1] = _ from h1)
    obtain ⟨z2, e2⟩ := in_int (show DataW.trod _ _ _ _ _ _ _ _ [v2] = _ from h2)
    obtain ⟨z3, e3⟩ := in_int (show DataW.trod _ _ _ _ _ _ _ _ [v3] = _ from h3)
    obtain ⟨z4, e4⟩ := in_int (show DataW.trod _ _ _ _ _ _ _ _ [v4] = _ from h4)
    obtain ⟨z5, e5⟩ := in_int (show DataW.trod _ _ _ _ _ _ _ _ [v5] = _ from h5)
    obtain ⟨z6, e6⟩ := in_int (show DataW.trod _ _ _ _ _ _ _ _ [v6] = _ from h6)
    obtain ⟨z7, e7⟩ := in_int (show DataW.trod _ _ _ _ _ _ _ _ [v7] = _ from h7)
    obtain ⟨z8, e8⟩ := in_bool (show DataW.trod _ _ _ _ _ _ _ _ [v8] = _ from h8)
    obtain ⟨s9, e9, i9, b9, c9⟩ := in_ents (show DataW.trod _ _ _ _ _ _ _ _ [v9] = _ from h9) l9
    obtain ⟨z10, e10⟩ := in_int (show DataW.trod _ _ _ _ _ _ _ _ [v10] = _ from g0)
    obtain ⟨z11, e11⟩ := in_int (show DataW.trod _ _ _ _ _ _ _ _ [v11] = _ from g1)
    obtain ⟨c12, e12, i12, b12⟩ := in_cfg (show DataW.trod _ _ _ _ _ _ _ _ [v12, v13, v14, v15] = _ from g2) rfl k2
    obtain ⟨z16, e16⟩ := in_int (show DataW.trod _ _ _ _ _ _ _ _ [v16] = _ from h11)
    obtain ⟨z17, e17⟩ := in_int (show DataW.trod _ _ _ _ _ _ _ _ [v17] = _ from h12)
    obtain ⟨z18, e18⟩ := in_int (show DataW.trod _ _ _ _ _ _ _ _ [v18] = _ from h13)
    obtain ⟨s19, e19, i19, b19⟩ := in_ls8 (show DataW.trod _ _ _ _ _ _ _ _ [v19] = _ from h14) l14
    injection e12 with a0 e12
    injection e12 with a1 e12
    injection e12 with a2 e12
    injection e12 with a3 e12
    exact ⟨⟨z0, z1, z2, z3, z4, z5, z6, z7, z8, s9, ⟨z10, z11, c12⟩, z16, z17, z18, s19⟩, by rw [e0, e1, e2, e3, e4, e5, e6, e7, e8, e9, e10, e11, a0, a1, a2, a3, e16, e17, e18, e19], ⟨k0, i9, fun e he => (c9 e he).1, i12, i19⟩, ⟨b9, fun e he => (c9 e he).2, b12, b19⟩⟩
theorem in_letters {fuel : Nat} {v : Value} {x : DataW H × List MemPlace} (h : DataW.trod enc Try.prog w base (fun _ => true) held fuel 27 [v] = some x) (hw : Lighter Try.prog 27 x.1) :
    ∃ s : Ls LetM, v = s.v ∧ LsIn w (· < w.heap.size) letsC s ∧ s.l.length ≤ 1125899906842624 ∧ ∀ e ∈ s.l, LetIn w (· < w.heap.size) e ∧ LetBd e := by
  obtain ⟨A, c, l, h1, h2, h3, h4, h5, _, h7⟩ := in_many letF (fun e => LetIn w (· < w.heap.size) e ∧ LetBd e) 20 (by omega) Try.underlying27 (by kernel_rfl) h hw fun n cs' d pl hd hlen hwt => in_letter hd hlen hwt
  injection h1 with h1
  have hb : Try.prog.bytesOf 40 = 256 := by kernel_rfl
  have hr : reachBytes = 140737488351232 := rfl
  rw [hb, hr] at h4
  exact ⟨⟨A, c, l⟩, h1, ⟨h5, h2, h3⟩, by show l.length ≤ _; omega, h7⟩
end
end Go.Proofs.Ytippdjaakcgeoaa

namespace Go.Proofs.Ytippdjaakcgeoaa
open Go Go.RowKit Go.ChangeShapes Go.WideShapes Go.Deep
set_option linter.unusedVariables false

instance : Inhabited DeedN := ⟨⟨0, 0, 0, lsZ⟩⟩
section
variable {H : Type} {enc : TypeId × Value → H} {w : World} {held : Bool} {base : Nat}
theorem in_int2 {fuel : Nat} {v : Value} {x : DataW H × List MemPlace} (h : DataW.trod enc Try.prog w base (fun _ => true) held fuel 3 [v] = some x) : ∃ n : Int, v = I64 n ∧ -9223372036854775808 ≤ n ∧ n ≤ 9223372036854775807 := by
  obtain ⟨s0, e0, _, e2⟩ := DataW.trod_int Try.underlying3 h
  injection e0 with e0
  exact ⟨s0, e0, by simpa [Lit.wf, IntKind.min, IntKind.max, IntKind.signed, IntKind.bits] using e2⟩
theorem in_deedsN {fuel : Nat} {cs : List Value} {x : DataW H × List MemPlace} (h : DataW.trod enc Try.prog w base (fun _ => true) held fuel 22 cs = some x) (hw : Lighter Try.prog 22 x.1) :
    ∃ (A : Option Addr) (c : Nat) (l : List DeedN), cs = [.slice A l.length c] ∧ l.length ≤ c ∧ c ≤ maxLen ∧ c * Try.prog.bytesOf 29 ≤ reachBytes ∧ Sl w (· < w.heap.size) A (deedsN l) ∧ ∀ d ∈ l, DeedNIn w (· < w.heap.size) d := by
  obtain ⟨A, c, l, h1, h2, h3, h4, h5, _, h7⟩ := in_many deedNF (fun d => DeedNIn w (· < w.heap.size) d) 4 (by omega) Try.underlying22 (by kernel_rfl) h hw fun n cs' d pl hd hlen hwt => by
    match cs', hlen with
    | [v0, v1, v2, v3], _ =>
      obtain ⟨n0, y0, h0, _⟩ := fld Try.underlying29 hd hwt 0 3 0 1 rfl rfl rfl (by kernel_rfl)
      obtain ⟨n1, y1, h1, _⟩ := fld Try.underlying29 hd hwt 1 3 1 1 rfl rfl rfl (by kernel_rfl)
      obtain ⟨n2, y2, h2, _⟩ := fld Try.underlying29 hd hwt 2 3 2 1 rfl rfl rfl (by kernel_rfl)
      obtain ⟨n3, y3, h3, l3⟩ := fld Try.underlying29 hd hwt 3 27 3 1 rfl rfl rfl (by kernel_rfl)
      obtain ⟨z0, e0, b0⟩ := in_int2 (show DataW.trod _ _ _ _ _ _ _ _ [v0] = _ from h0)
      obtain ⟨z1, e1, b1⟩ := in_int2 (show DataW.trod _ _ _ _ _ _ _ _ [v1] = _ from h1)
      obtain ⟨z2, e2, b2⟩ := in_int2 (show DataW.trod _ _ _ _ _ _ _ _ [v2] = _ from h2)
      obtain ⟨s, e3, i3, b3, c3⟩ := in_letters (show DataW.trod _ _ _ _ _ _ _ _ [v3] = _ from h3) l3
      refine ⟨⟨z0, z1, z2, s⟩, by rw [e0, e1, e2, e3]; rfl, ⟨b0, ⟨?_, ?_⟩, ⟨i3, fun x hx => (c3 x hx).1⟩, fun x hx => (c3 x hx).2, b3⟩⟩
      · simpa [Lit.wf, IntKind.min, IntKind.max, IntKind.signed, IntKind.bits] using b1
      · simpa [Lit.wf, IntKind.min, IntKind.max, IntKind.signed, IntKind.bits] using b2
  exact ⟨A, c, l, h1, h2, h3, h4, h5, h7⟩
end
end Go.Proofs.Ytippdjaakcgeoaa
