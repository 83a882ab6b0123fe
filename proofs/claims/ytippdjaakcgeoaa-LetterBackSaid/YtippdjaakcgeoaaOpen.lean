/- What comes in, as the words for memory have it. -/
import Derived.Test.YtippdjaakcgeoaaWire
namespace Go.Proofs.Ytippdjaakcgeoaa
open Go Go.RowKit

theorem spot_none {w : World} {a : Addr} {v : Value} (h : w.cell? a = some v) : a.spot = none ∧ a.block < w.heap.size := by
  refine ⟨?_, World.block_lt_of_cell? w a h⟩
  unfold World.cell? at h
  split at h
  · split at h
    · cases h
    · rename_i h2; simpa using h2
  · cases h

/-- A slice of integers that came in, as 'open_ints' gives it. -/
def RowIn (k : IntKind) (w : World) (a : Option Addr) (len cap : Nat) (zs : List Int) : Prop :=
  (a = none ∧ len = 0 ∧ cap = 0 ∧ zs = []) ∨
  ∃ x, a = some x ∧ len ≤ cap ∧ cap ≤ maxLen ∧ zs.length = cap ∧ (∀ i, i < zs.length → w.cell? (x.add i) = some (.int k (zs.getD i 0))) ∧ ∀ n ∈ zs, (Lit.int k n).wf = true

theorem RowIn.sl {k : IntKind} {w : World} {a : Option Addr} {len cap : Nat} {zs : List Int} (h : RowIn k w a len cap zs) : (zs.take len).length = len ∧ len ≤ cap ∧ cap ≤ maxLen ∧ Sl w (· < w.heap.size) a ((zs.take len).map (Value.int k)) := by
  rcases h with ⟨rfl, rfl, rfl, rfl⟩ | ⟨x, rfl, hl, hm, hz, hc, _⟩
  · exact ⟨rfl, Nat.le_refl _, by decide, .inl rfl⟩
  · refine ⟨by rw [List.length_take]; omega, hl, hm, ?_⟩
    by_cases he : zs = []
    · subst he; exact .inl (by simp)
    · have hpos : 0 < zs.length := by cases zs with | nil => exact (he rfl).elim | cons _ _ => simp
      have h0 := hc 0 hpos
      rw [show x.add 0 = x from rfl] at h0
      obtain ⟨hs, hb⟩ := spot_none h0
      obtain ⟨b, o, s⟩ := x
      simp only at hs hb
      subst hs
      refine .inr ⟨b, o, rfl, hb, hb, fun j u hu => ?_⟩
      have hj : j < (zs.take len).length := by
        rcases Nat.lt_or_ge j ((zs.take len).map (Value.int k)).length with h | h
        · simpa using h
        · rw [List.getElem?_eq_none h] at hu; cases hu
      rw [List.length_take] at hj
      have h1 := hc j (by omega)
      rw [Addr.add_lit] at h1
      rw [h1, ← hu]
      simp only [List.getElem?_map, List.getElem?_take]
      rw [if_pos (by omega)]
      simp [List.getD, show j < zs.length by omega]

theorem u8_of_wf {n : Int} (h : (Lit.int .u8 n).wf = true) : 0 ≤ n ∧ n ≤ 255 := by
  simpa [Lit.wf, IntKind.min, IntKind.max, IntKind.signed, IntKind.bits] using h
/-- Bytes that came in. -/
theorem RowIn.u8 {w : World} {a : Option Addr} {len cap : Nat} {zs : List Int} (h : RowIn .u8 w a len cap zs) : ∃ bs : List UInt8, bs.length = len ∧ len ≤ cap ∧ cap ≤ maxLen ∧ Sl w (· < w.heap.size) a (bs.map B8) := by
  obtain ⟨h1, h2, h3, h4⟩ := h.sl
  refine ⟨(zs.take len).map fun n => UInt8.ofNat n.toNat, by simpa using h1, h2, h3, ?_⟩
  have e : ((zs.take len).map fun n => UInt8.ofNat n.toNat).map B8 = (zs.take len).map (Value.int .u8) := by
    rw [List.map_map]
    refine List.map_congr_left fun n hn => ?_
    have hw : (Lit.int .u8 n).wf = true := by
      rcases h with ⟨_, _, _, rfl⟩ | ⟨_, _, _, _, _, _, hw⟩
      · simp at hn
      · exact hw n (List.mem_of_mem_take hn)
    have := u8_of_wf hw
    show Value.int .u8 ((UInt8.ofNat n.toNat).toNat : Int) = _
    rw [UInt8.toNat_ofNat']
    congr 1
    omega
  rw [e]
  exact h4
end Go.Proofs.Ytippdjaakcgeoaa
