/- What comes in: reads; verdicts. -/
import Derived.Test.YtgmcjfjdjnoljaaFrmB
import Derived.Test.YtgmcjfjdjnoljaaRuF
namespace Go.Proofs.Ytgmcjfjdjnoljaa
open Go Go.RowKit Go.ChangeShapes Go.WideShapes Go.Deep

section
variable {H : Type} {enc : TypeId × Value → H} {P : Program} {w : World} {held : Bool} {base : Nat}
theorem Lighter.field {e t : TypeId} {fs : Array Field} {parts : List (DataW H)} {d : DataW H} {j : Nat} (h : Lighter P e (.agg parts)) (he : P.underlying e = some (.struct fs)) (ht : (fs.toList.map (·.type))[j]? = some t) (hd : parts[j]? = some d) : Lighter P t d := fun m hm => h m (by
  simp only [DataW.weights, he]
  exact DataW.weights_mem_each ht hd m hm)
theorem i64_wf {n : Int} (h : (Lit.int .i64 n).wf = true) : -9223372036854775808 ≤ n ∧ n ≤ 9223372036854775807 := by
  simpa [Lit.wf, IntKind.min, IntKind.max, IntKind.signed, IntKind.bits] using h
/-- Lengths that a machine can have. -/
def RdgLen (r : Rdg) : Prop := r.1.length ≤ maxLen ∧ r.2.2.length ≤ maxLen
theorem in_reads {t e : TypeId} {f0 f1 f2 : Field} {fuel : Nat} {cs : List Value} {x : DataW H × List MemPlace} (ht : P.underlying t = some (.slice e)) (he : P.underlying e = some (.struct #[f0, f1, f2]))
    (o0 : f0.offset = 0) (o1 : f1.offset = 1) (o2 : f2.offset = 2) (k0 : P.cellsOf f0.type = 1) (k1 : P.cellsOf f1.type = 1) (k2 : P.cellsOf f2.type = 1) (u0 : P.underlying f0.type = some .string) (u1 : P.underlying f1.type = some .bool) (u2 : P.underlying f2.type = some .string) (hc : P.cellsOf e = 3)
    (h : DataW.trod enc P w base (fun _ => true) held fuel t cs = some x) (hw : Lighter P t x.1) :
    ∃ (A : Option Addr) (c : Nat) (l : List Rdg), cs = [.slice A l.length c] ∧ l.length ≤ c ∧ c ≤ maxLen ∧ c * P.bytesOf e ≤ reachBytes ∧ Sl w (· < w.heap.size) A (rdgsCells l) ∧ ∀ r ∈ l, RdgLen r := by
  obtain ⟨A, c, l, h1, h2, h3, h4, h5, _, h7⟩ := in_many rdgCells RdgLen 3 (by omega) ht hc h hw fun n cs' d pl hd hlen _ => by
    obtain ⟨xs, m, _, _, _, hxl, hf⟩ := DataW.trod_struct he hd
    have hf0 := hf 0 f0 rfl
    have hf1 := hf 1 f1 rfl
    have hf2 := hf 2 f2 rfl
    rw [o0, k0] at hf0
    rw [o1, k1] at hf1
    rw [o2, k2] at hf2
    match cs', hlen with
    | [v0, v1, v2], _ =>
      simp only [List.drop_zero, List.take_succ_cons, List.take_zero, List.drop_succ_cons] at hf0 hf1 hf2
      have hx0 : xs[0]? = some (xs[0]'(by simp [hxl])) := List.getElem?_eq_getElem _
      have hx1 : xs[1]? = some (xs[1]'(by simp [hxl])) := List.getElem?_eq_getElem _
      have hx2 : xs[2]? = some (xs[2]'(by simp [hxl])) := List.getElem?_eq_getElem _
      rw [hx0] at hf0
      rw [hx1] at hf1
      rw [hx2] at hf2
      obtain ⟨z0, hz0, _, hs0⟩ := DataW.trod_string u0 hf0
      obtain ⟨z1, hz1, _⟩ := DataW.trod_bool u1 hf1
      obtain ⟨z2, hz2, _, hs2⟩ := DataW.trod_string u2 hf2
      simp at hz0 hz1 hz2
      refine ⟨(z0.data.toList, z1, z2.data.toList), ?_, hs0, hs2⟩
      rw [hz0, hz1, hz2, strV_of z0, strV_of z2]
      rfl
  exact ⟨A, c, l, h1, h2, h3, h4, h5, h7⟩
/-- A verdict's cells, by what it is and where its reads lie. -/
def verF (x : Ver × Option Addr × Nat) : List Value := verL x.1 x.2.1 x.2.2
theorem in_vers {t e nt rt re : TypeId} {f0 f1 f2 f3 n0 n1 g0 g1 g2 : Field} {fuel : Nat} {cs : List Value} {x : DataW H × List MemPlace} (ht : P.underlying t = some (.slice e)) (he : P.underlying e = some (.struct #[f0, f1, f2, f3]))
    (o0 : f0.offset = 0) (o1 : f1.offset = 2) (o2 : f2.offset = 3) (o3 : f3.offset = 4) (k0 : P.cellsOf f0.type = 2) (k1 : P.cellsOf f1.type = 1) (k2 : P.cellsOf f2.type = 1) (k3 : P.cellsOf f3.type = 1) (t0 : f0.type = nt) (t3 : f3.type = rt)
    (u0 : P.underlying nt = some (.struct #[n0, n1])) (u1 : P.underlying f1.type = some .bool) (u2 : P.underlying f2.type = some (.int .i64))
    (no0 : n0.offset = 0) (no1 : n1.offset = 1) (nk0 : P.cellsOf n0.type = 1) (nk1 : P.cellsOf n1.type = 1) (nu0 : P.underlying n0.type = some (.int .i64)) (nu1 : P.underlying n1.type = some (.int .i64))
    (rt1 : P.underlying rt = some (.slice re)) (re1 : P.underlying re = some (.struct #[g0, g1, g2]))
    (ro0 : g0.offset = 0) (ro1 : g1.offset = 1) (ro2 : g2.offset = 2) (rk0 : P.cellsOf g0.type = 1) (rk1 : P.cellsOf g1.type = 1) (rk2 : P.cellsOf g2.type = 1) (ru0 : P.underlying g0.type = some .string) (ru1 : P.underlying g1.type = some .bool) (ru2 : P.underlying g2.type = some .string) (rc : P.cellsOf re = 3) (hc : P.cellsOf e = 5)
    (h : DataW.trod enc P w base (fun _ => true) held fuel t cs = some x) (hw : Lighter P t x.1) :
    ∃ (A : Option Addr) (c : Nat) (l : List Ver) (vcs : List Value), cs = [.slice A l.length c] ∧ l.length ≤ c ∧ c ≤ maxLen ∧ c * P.bytesOf e ≤ reachBytes ∧ Sl w (· < w.heap.size) A vcs ∧ VersC w (· < w.heap.size) l vcs ∧ ∀ v ∈ l, NmWf v.1 ∧ v.2.2.2.length ≤ maxLen ∧ ∀ r ∈ v.2.2.2, RdgLen r := by
  obtain ⟨A, c, l, h1, h2, h3, h4, h5, h6, h7⟩ := in_many verF (fun x => (x.1.2.2.2.length ≤ x.2.2 ∧ x.2.2 ≤ maxLen ∧ Sl w (· < w.heap.size) x.2.1 (rdgsCells x.1.2.2.2)) ∧ NmWf x.1.1 ∧ ∀ r ∈ x.1.2.2.2, RdgLen r) 5 (by omega) ht hc h hw fun n cs' d pl hd hlen hwt => by
    obtain ⟨xs, m, _, hagg, _, hxl, hf⟩ := DataW.trod_struct he hd
    have hf0 := hf 0 f0 rfl
    have hf1 := hf 1 f1 rfl
    have hf2 := hf 2 f2 rfl
    have hf3 := hf 3 f3 rfl
    rw [o0, k0] at hf0
    rw [o1, k1] at hf1
    rw [o2, k2] at hf2
    rw [o3, k3] at hf3
    match cs', hlen with
    | [v0, v1, v2, v3, v4], _ =>
      simp only [List.drop_zero, List.take_succ_cons, List.take_zero, List.drop_succ_cons] at hf0 hf1 hf2 hf3
      have hx0 : xs[0]? = some (xs[0]'(by simp [hxl])) := List.getElem?_eq_getElem _
      have hx1 : xs[1]? = some (xs[1]'(by simp [hxl])) := List.getElem?_eq_getElem _
      have hx2 : xs[2]? = some (xs[2]'(by simp [hxl])) := List.getElem?_eq_getElem _
      have hx3 : xs[3]? = some (xs[3]'(by simp [hxl])) := List.getElem?_eq_getElem _
      rw [hx0, t0] at hf0
      rw [hx1] at hf1
      rw [hx2] at hf2
      rw [hx3, t3] at hf3
      obtain ⟨ys, m2, _, _, _, hyl, hg⟩ := DataW.trod_struct u0 hf0
      have hg0 := hg 0 n0 rfl
      have hg1 := hg 1 n1 rfl
      rw [no0, nk0] at hg0
      rw [no1, nk1] at hg1
      simp only [List.drop_zero, List.take_succ_cons, List.take_zero, List.drop_succ_cons] at hg0 hg1
      have hy0 : ys[0]? = some (ys[0]'(by simp [hyl])) := List.getElem?_eq_getElem _
      have hy1 : ys[1]? = some (ys[1]'(by simp [hyl])) := List.getElem?_eq_getElem _
      rw [hy0] at hg0
      rw [hy1] at hg1
      obtain ⟨z0, hz0, _, w0⟩ := DataW.trod_int nu0 hg0
      obtain ⟨z1, hz1, _, w1⟩ := DataW.trod_int nu1 hg1
      obtain ⟨z2, hz2, _⟩ := DataW.trod_bool u1 hf1
      obtain ⟨z3, hz3, _, _⟩ := DataW.trod_int u2 hf2
      have hag : d = .agg (xs.map (·.1)) := by injection hagg
      rw [hag] at hwt
      have hw3 : Lighter P rt (xs[3]'(by simp [hxl])).1 := hwt.field (j := 3) he (by simp [t3]) (by simp [hxl])
      obtain ⟨A, c, l, r1, r2, r3, _, r5, r6⟩ := in_reads rt1 re1 ro0 ro1 ro2 rk0 rk1 rk2 ru0 ru1 ru2 rc hf3 hw3
      simp at hz0 hz1 hz2 hz3 r1
      refine ⟨(((z0, z1), z2, z3, l), A, c), ?_, ⟨r2, r3, r5⟩, ⟨w0, w1⟩, r6⟩
      rw [hz0, hz1, hz2, hz3, r1]
      rfl
  refine ⟨A, c, l.map (·.1), (l.map verF).flatten, by simpa using h1, by simpa using h2, h3, h4, h5, ⟨?_, fun k hk => ?_⟩, fun v hv => ?_⟩
  · rw [flat_len verF 5 l h6]; simp
  · have hk' : k < l.length := by simpa using hk
    obtain ⟨⟨q1, q2, q3⟩, _, _⟩ := h7 _ (List.getElem_mem hk')
    have hvk : (l.map (·.1))[k] = l[k].1 := by simp
    rw [hvk]
    refine ⟨l[k].2.1, l[k].2.2, ?_, q1, q2, q3⟩
    have hl5 : (verF l[k]).length = 5 := h6 _ (List.getElem_mem hk')
    show _ = verF l[k]
    refine List.ext_getElem? fun j => ?_
    rcases Nat.lt_or_ge j 5 with hj | hj
    · rw [← drop5 _ k j hj, flat_at verF 5 l h6 k j hk' hj]
    · rw [List.getElem?_eq_none (by simp; omega), List.getElem?_eq_none (by omega)]
  · obtain ⟨y, hy, rfl⟩ := List.mem_map.1 hv
    obtain ⟨⟨q1, q2, _⟩, q4, q5⟩ := h7 y hy
    exact ⟨q4, by omega, q5⟩
end
end Go.Proofs.Ytgmcjfjdjnoljaa
