/- What comes in, of whatever type, as the words for memory have it, with its sizes. -/
import Derived.Test.YtippdjaakcgeoaaOpen
import Derived.Deep.Slices
import Derived.SizedLaws
import Derived.ChangeSlices
import Derived.SliceStrings
import Derived.OpenShut
import Derived.ShutString
import Derived.ChangeOld
namespace Go.Proofs.Ytippdjaakcgeoaa
open Go Go.RowKit Go.ChangeShapes Go.WideShapes Go.Deep

section
variable {H : Type} {enc : TypeId × Value → H} {P : Program} {w : World} {held : Bool} {base : Nat}

/-- All that it weighs is within the reach. -/
def Lighter (P : Program) (t : TypeId) (d : DataW H) : Prop := ∀ m ∈ d.weights P t, m ≤ reachBytes

theorem weightsAll_mem {e : TypeId} : ∀ {l : List (DataW H)} {d : DataW H}, d ∈ l → ∀ m ∈ d.weights P e, m ∈ DataW.weightsAll P e l
  | d0 :: l, d, h, m, hm => by
    simp only [DataW.weightsAll, List.mem_append]
    rcases List.mem_cons.1 h with rfl | h
    · exact .inl hm
    · exact .inr (weightsAll_mem h m hm)
theorem Lighter.of_each {ts : List TypeId} {ds : List (DataW H)} (h : (DataW.weightsEach P ts ds).all (· ≤ reachBytes) = true) {j : Nat} {t : TypeId} {d : DataW H} (ht : ts[j]? = some t) (hd : ds[j]? = some d) : Lighter P t d := fun m hm => by
  have := List.all_eq_true.1 h _ (DataW.weights_mem_each ht hd m hm)
  simpa using this

/-- A slice that came in, its elements one cell each. -/
theorem in_list {α : Type} [Inhabited α] (f : α → Value) (Q : α → Prop) {t e : TypeId} {fuel : Nat} {cs : List Value} {x : DataW H × List MemPlace} (ht : P.underlying t = some (.slice e)) (hc : P.cellsOf e = 1)
    (h : DataW.trod enc P w base (fun _ => true) held fuel t cs = some x) (hw : Lighter P t x.1)
    (each : ∀ n v d pl, DataW.trod enc P w base (fun _ => true) held n e [v] = some (d, pl) → Lighter P e d → ∃ x, v = f x ∧ Q x) :
    ∃ (A : Option Addr) (c : Nat) (l : List α), cs = [.slice A l.length c] ∧ l.length ≤ c ∧ c ≤ maxLen ∧ c * P.bytesOf e ≤ reachBytes ∧ Sl w (· < w.heap.size) A (l.map f) ∧ ∀ x ∈ l, Q x := by
  rcases open_slice1 ht hc h with ⟨rfl, rfl⟩ | ⟨a, len, cap, m, n, V, D, Pl, rfl, _, hl, hm, hmm, rfl, hx⟩
  · exact ⟨none, 0, [], rfl, Nat.le_refl _, by decide, by simp [reachBytes], .inl rfl, by simp⟩
  · simp only [if_true] at hmm
    subst hmm
    have hsz : m * P.bytesOf e ≤ reachBytes := by
      have := hw ((len + (m - len)) * P.bytesOf e) (by simp [DataW.weights, ht])
      rwa [show len + (m - len) = m by omega] at this
    have hel : ∀ i, i < len → ∃ x, V i = f x ∧ Q x := fun i hi => by
      refine each n (V i) (D i) (Pl i) (hx i (by omega)).2 fun k hk => hw k ?_
      simp only [DataW.weights, ht, List.mem_cons, List.mem_append]
      exact .inr (.inl (weightsAll_mem (List.mem_map.2 ⟨i, List.mem_range.2 hi, rfl⟩) k hk))
    obtain ⟨X, hX⟩ := choose_lt (α := α) (p := fun i x => V i = f x ∧ Q x) hel
    refine ⟨some a, m, (List.range len).map X, by simp, by simpa using hl, hm, hsz, ?_, fun x hxm => ?_⟩
    · by_cases hz : len = 0
      · subst hz; exact .inl rfl
      · have h0 := (hx 0 (by omega)).1
        rw [show a.add 0 = a from rfl] at h0
        obtain ⟨hs, hb⟩ := spot_none h0
        obtain ⟨b, o, s⟩ := a
        simp only at hs hb
        subst hs
        refine .inr ⟨b, o, rfl, hb, hb, fun j u hu => ?_⟩
        have hj : j < len := by
          rcases Nat.lt_or_ge j len with h | h
          · exact h
          · rw [List.getElem?_eq_none (by simpa using h)] at hu; cases hu
        have h1 := (hx j (by omega)).1
        rw [Addr.add_lit] at h1
        rw [h1, ← hu]
        simp [hj, (hX j hj).1]
    · obtain ⟨i, hi, rfl⟩ := List.mem_map.1 hxm
      exact (hX i (List.mem_range.1 hi)).2

theorem in_ints {t e : TypeId} {k : IntKind} {fuel : Nat} {cs : List Value} {x : DataW H × List MemPlace} (ht : P.underlying t = some (.slice e)) (he : P.underlying e = some (.int k)) (hc : P.cellsOf e = 1)
    (h : DataW.trod enc P w base (fun _ => true) held fuel t cs = some x) (hw : Lighter P t x.1) :
    ∃ (A : Option Addr) (c : Nat) (l : List Int), cs = [.slice A l.length c] ∧ l.length ≤ c ∧ c ≤ maxLen ∧ c * P.bytesOf e ≤ reachBytes ∧ Sl w (· < w.heap.size) A (l.map (Value.int k)) ∧ ∀ x ∈ l, (Lit.int k x).wf = true :=
  in_list (Value.int k) _ ht hc h hw fun n v d pl hd _ => by
    obtain ⟨z, hz, _, hwf⟩ := DataW.trod_int he hd
    simp at hz
    exact ⟨z, hz, hwf⟩
theorem in_bools {t e : TypeId} {fuel : Nat} {cs : List Value} {x : DataW H × List MemPlace} (ht : P.underlying t = some (.slice e)) (he : P.underlying e = some .bool) (hc : P.cellsOf e = 1)
    (h : DataW.trod enc P w base (fun _ => true) held fuel t cs = some x) (hw : Lighter P t x.1) :
    ∃ (A : Option Addr) (c : Nat) (l : List Bool), cs = [.slice A l.length c] ∧ l.length ≤ c ∧ c ≤ maxLen ∧ c * P.bytesOf e ≤ reachBytes ∧ Sl w (· < w.heap.size) A (l.map Value.bool) := by
  obtain ⟨A, c, l, h1, h2, h3, h4, h5, _⟩ := in_list Value.bool (fun _ => True) ht hc h hw fun n v d pl hd _ => by
    obtain ⟨z, hz, _⟩ := DataW.trod_bool he hd
    simp at hz
    exact ⟨z, hz, trivial⟩
  exact ⟨A, c, l, h1, h2, h3, h4, h5⟩
theorem in_strings {t e : TypeId} {fuel : Nat} {cs : List Value} {x : DataW H × List MemPlace} (ht : P.underlying t = some (.slice e)) (he : P.underlying e = some .string) (hc : P.cellsOf e = 1)
    (h : DataW.trod enc P w base (fun _ => true) held fuel t cs = some x) (hw : Lighter P t x.1) :
    ∃ (A : Option Addr) (c : Nat) (l : List ByteArray), cs = [.slice A l.length c] ∧ l.length ≤ c ∧ c ≤ maxLen ∧ c * P.bytesOf e ≤ reachBytes ∧ Sl w (· < w.heap.size) A (l.map Value.string) ∧ ∀ x ∈ l, x.size ≤ reachBytes :=
  in_list Value.string _ ht hc h hw fun n v d pl hd hwt => by
    obtain ⟨z, hz, hx, _⟩ := DataW.trod_string he hd
    simp at hz
    simp only [Prod.mk.injEq] at hx
    refine ⟨z, hz, ?_⟩
    have := hwt z.data.toList.length (by rw [hx.1]; simp [DataW.weights])
    simpa using this
theorem u8_list (l : List Int) (h : ∀ x ∈ l, (Lit.int .u8 x).wf = true) : ∃ bs : List UInt8, bs.length = l.length ∧ bs.map B8 = l.map (Value.int .u8) := by
  refine ⟨l.map fun n => UInt8.ofNat n.toNat, by simp, ?_⟩
  rw [List.map_map]
  refine List.map_congr_left fun n hn => ?_
  have := u8_of_wf (h n hn)
  show Value.int .u8 ((UInt8.ofNat n.toNat).toNat : Int) = _
  rw [UInt8.toNat_ofNat']
  congr 1
  omega
theorem in_bytes {t e : TypeId} {fuel : Nat} {cs : List Value} {x : DataW H × List MemPlace} (ht : P.underlying t = some (.slice e)) (he : P.underlying e = some (.int .u8)) (hc : P.cellsOf e = 1)
    (h : DataW.trod enc P w base (fun _ => true) held fuel t cs = some x) (hw : Lighter P t x.1) :
    ∃ (A : Option Addr) (c : Nat) (l : List UInt8), cs = [.slice A l.length c] ∧ l.length ≤ c ∧ c ≤ maxLen ∧ c * P.bytesOf e ≤ reachBytes ∧ Sl w (· < w.heap.size) A (l.map B8) := by
  obtain ⟨A, c, l, h1, h2, h3, h4, h5, h6⟩ := in_ints ht he hc h hw
  obtain ⟨bs, hl, hb⟩ := u8_list l h6
  exact ⟨A, c, bs, by rw [hl]; exact h1, by rw [hl]; exact h2, h3, h4, by rw [hb]; exact h5⟩
theorem in_rows {t e q : TypeId} {fuel : Nat} {cs : List Value} {x : DataW H × List MemPlace} (ht : P.underlying t = some (.slice e)) (he : P.underlying e = some (.slice q)) (hq : P.underlying q = some (.int .u8)) (hc : P.cellsOf e = 1) (hcq : P.cellsOf q = 1) (hbq : P.bytesOf q = 1)
    (h : DataW.trod enc P w base (fun _ => true) held fuel t cs = some x) (hw : Lighter P t x.1) :
    ∃ (A : Option Addr) (c : Nat) (vs : List Value) (l : List (List UInt8)), cs = [.slice A l.length c] ∧ l.length ≤ c ∧ c ≤ maxLen ∧ c * P.bytesOf e ≤ reachBytes ∧ Sl w (· < w.heap.size) A vs ∧ RowsV w (· < w.heap.size) vs l ∧ ∀ x ∈ l, x.length ≤ reachBytes := by
  obtain ⟨A, c, l, h1, h2, h3, h4, h5, h6⟩ := in_list (α := Value × List UInt8) Prod.fst (fun x => BytesV w (· < w.heap.size) x.1 x.2 ∧ x.2.length ≤ reachBytes) ht hc h hw fun n v d pl hd hwt => by
    obtain ⟨A, c, l, h1, h2, h3, h4, h5⟩ := in_bytes he hq hcq hd hwt
    simp at h1
    rw [hbq, Nat.mul_one] at h4
    exact ⟨(v, l), rfl, ⟨A, c, h1, h2, h3, h5⟩, Nat.le_trans h2 h4⟩
  refine ⟨A, c, l.map Prod.fst, l.map Prod.snd, by simpa using h1, by simpa using h2, h3, h4, h5, ⟨by simp, fun k hk => ?_⟩, fun x hx => ?_⟩
  · have hk' : k < l.length := by simpa using hk
    exact ⟨(l[k]).1, by simp [hk'], by simpa using (h6 _ (List.getElem_mem hk')).1⟩
  · obtain ⟨y, hy, rfl⟩ := List.mem_map.1 hx
    exact (h6 y hy).2
end
end Go.Proofs.Ytippdjaakcgeoaa
