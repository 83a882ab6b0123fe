/- Writing by a writer, in a drawn region: lists are made, the writer is called. -/
import Derived.Test.YtippdjaakcgeoaaEfB
import Derived.Test.YtippdjaakcgeoaaWrB
import Derived.Test.YtippdjaakcgeoaaClA
namespace Go.Proofs.Ytippdjaakcgeoaa
open Go Go.RowKit

abbrev W8 (bs : List UInt8) : Wr := ⟨true, bs⟩
theorem wk_apart {w : World} {F : Nat → Prop} {b : Nat} {t : TypeId} {cs : Array Value} (hb : Blk w b t cs) (hF : ¬ F b) : Apart w (· = b) F := fun k hk => by subst hk; exact ⟨hb.lt, hF⟩
theorem wk_nums (w : World) (F : Nat → Prop) (g : Nat) (bs : List UInt8) (h : IsWr w F g (W8 bs)) (b n : Nat) (ns : List Int) (cs : Array Value) (hb : Blk w b 3 cs) (hF : ¬ F b) (hcs : cs.toList = ns.map I64) (hn : ns.length = n) (hn2 : n ≤ 1000) (hr : ∀ x ∈ ns, Right x) (hsz : bs.length ≤ 700000000000) :
    Calls Try.prog 53 #[.pointer (some ⟨g, 0, none⟩), .slice (some ⟨b, 0, none⟩) n n] w fun e w' => e = .returned (.pointer (some ⟨g, 0, none⟩)) ∧ WrTo w F g (W8 (bs ++ encAll ns)) w' := by
  subst hn
  have hs := hb.sl 0 cs.size
  rw [List.drop_zero, List.take_of_length_le (by simp), hcs] at hs
  refine (numbers_any w F (· = b) g ⟨true, bs⟩ h (some ⟨b, 0, none⟩) ns.length ns hs (wk_apart hb hF) (by omega) (by show bs.length ≤ _; omega)).mono ?_
  rintro e w' ⟨rfl, h2⟩
  rw [wrNums_right _ _ hr] at h2
  exact ⟨rfl, h2⟩
theorem wk_flags (w : World) (F : Nat → Prop) (g : Nat) (bs : List UInt8) (h : IsWr w F g (W8 bs)) (b n : Nat) (ns : List Bool) (cs : Array Value) (hb : Blk w b 4 cs) (hF : ¬ F b) (hcs : cs.toList = ns.map Value.bool) (hn : ns.length = n) (hn2 : n ≤ 1000) (hsz : bs.length ≤ 700000000000) :
    Calls Try.prog 80 #[.pointer (some ⟨g, 0, none⟩), .slice (some ⟨b, 0, none⟩) n n] w fun e w' => e = .returned (.pointer (some ⟨g, 0, none⟩)) ∧ WrTo w F g (W8 (bs ++ (ns.map flagB).flatten)) w' := by
  subst hn
  have hs := hb.sl 0 cs.size
  rw [List.drop_zero, List.take_of_length_le (by simp), hcs] at hs
  refine (flags_any w F (· = b) g ⟨true, bs⟩ h (some ⟨b, 0, none⟩) ns.length ns hs (wk_apart hb hF) (by omega) (by show bs.length ≤ _; omega)).mono ?_
  rintro e w' ⟨rfl, h2⟩
  have e1 : ∀ (ns : List Bool) (bs : List UInt8), wrFlags ns ⟨true, bs⟩ = ⟨true, bs ++ (ns.map flagB).flatten⟩ := by
    intro ns
    induction ns with
    | nil => intro bs; simp [wrFlags]
    | cons m ns ih =>
      intro bs
      have e2 : wrFlags (m :: ns) ⟨true, bs⟩ = wrFlags ns ⟨true, bs ++ flagB m⟩ := rfl
      rw [e2, ih]
      simp
  rw [e1] at h2
  exact ⟨rfl, h2⟩
/-- One row of bytes that lie anywhere apart. -/
theorem wk_row (w : World) (F F2 : Nat → Prop) (g : Nat) (bs : List UInt8) (h : IsWr w F g (W8 bs)) (b : Nat) (A : Option Addr) (c : Nat) (s : List UInt8) (hb : Blk w b 38 #[.slice A s.length c]) (hF : ¬ F b) (hs : Sl w F2 A (s.map B8)) (hF2 : Apart w F2 F) (hs2 : s.length ≤ 1000000) (hc : s.length ≤ c) (hcm : c ≤ maxLen) (hsz : bs.length ≤ 700000000000) :
    Calls Try.prog 83 #[.pointer (some ⟨g, 0, none⟩), .slice (some ⟨b, 0, none⟩) 1 1] w fun e w' => e = .returned (.pointer (some ⟨g, 0, none⟩)) ∧ WrTo w F g (W8 (bs ++ rowB s)) w' := by
  have hsl : Sl w (fun k => F2 k ∨ k = b) (some ⟨b, 0, none⟩) [.slice A s.length c] := (hb.sl 0 1).mono (fun k hk _ => .inr hk)
  have hrs : RowsV w (fun k => F2 k ∨ k = b) [.slice A s.length c] [s] := ⟨rfl, fun k hk => by
    have hk0 : k = 0 := by simpa using hk
    subst hk0
    exact ⟨_, rfl, ⟨A, c, rfl, hc, hcm, hs.mono (fun k hk _ => .inl hk)⟩⟩⟩
  have hap : Apart w (fun k => F2 k ∨ k = b) F := fun k hk => by
    rcases hk with hk | rfl
    · exact hF2 k hk
    · exact ⟨hb.lt, hF⟩
  refine (rows_any w F _ g ⟨true, bs⟩ h (some ⟨b, 0, none⟩) 1 [.slice A s.length c] [s] hsl hrs hap (by show bs.length + 9 * 1 + rowsLen [s] ≤ _; simp [rowsLen]; omega)).mono ?_
  rintro e w' ⟨rfl, h2⟩
  have e1 : wrRows [s] ⟨true, bs⟩ = ⟨true, bs ++ rowB s⟩ := by simp [wrRows, wrRow, rowB]
  rw [e1] at h2
  exact ⟨rfl, h2⟩
/-- A call of the writer: the list it takes is made at 'k', it comes at 'c', and puts 'bs'. -/
structure CallD where
  k : Nat
  c : Nat
  t : TypeId
  cs : Array Value
  bs : List UInt8
def noDup : List Nat → Bool
  | [] => true
  | a :: l => l.all (· != a) && noDup l
theorem noDup_ne {l : List Nat} (h : noDup l = true) : ∀ (i j a b : Nat), l[i]? = some a → l[j]? = some b → i ≠ j → a ≠ b := by
  induction l with
  | nil => intro i j a b h1; simp at h1
  | cons x l ih =>
    unfold noDup at h
    rw [Bool.and_eq_true, List.all_eq_true] at h
    intro i j a b h1 h2 hij
    cases i with
    | zero =>
      cases j with
      | zero => exact absurd rfl hij
      | succ j =>
        simp at h1 h2
        subst h1
        have := h.1 b (List.mem_of_getElem? h2)
        rw [bne_iff_ne] at this
        exact Ne.symm this
    | succ i =>
      cases j with
      | zero =>
        simp at h1 h2
        subst h2
        have := h.1 a (List.mem_of_getElem? h1)
        rwa [bne_iff_ne] at this
      | succ j => exact ih h.2 i j a b (by simpa using h1) (by simpa using h2) (by omega)
def callsB (cl : List CallD) : List UInt8 := (cl.map (·.bs)).flatten
def WrC (W : World) (F : Nat → Prop) (g : Nat) (bs0 : List UInt8) (cl : List CallD) (L : Nat → Bool) (B : Bk) (w : World) : Prop :=
  ∃ n F', n ≤ cl.length ∧ (∀ i d, cl[i]? = some d → L d.c = decide (i < n)) ∧ IsWr w F' g (W8 (bs0 ++ callsB (cl.take n))) ∧ Fr F W w ∧ (∀ k, F' k → F k ∨ W.heap.size ≤ k) ∧ ∀ d ∈ cl, L d.k = true → Blk w (B d.k).1 d.t d.cs ∧ ¬ F' (B d.k).1
section
variable {W w w' : World} {F : Nat → Prop} {g : Nat} {bs0 : List UInt8} {cl : List CallD} {L : Nat → Bool} {B : Bk}
theorem WrC.fr (h : WrC W F g bs0 cl L B w) : Fr F W w := by
  obtain ⟨_, _, _, _, _, h, _⟩ := h
  exact h
theorem WrC.start (h : IsWr W F g (W8 bs0)) (B : Bk) : WrC W F g bs0 cl (fun _ => false) B W.drew :=
  ⟨0, F, Nat.zero_le _, fun i d _ => by simp, by simpa [callsB] using h.fr ((Fr.refl (fun _ => False) W).drew) (fun _ _ h => h), (Fr.refl _ W).drew, fun k hk => .inl hk, fun d _ h => by cases h⟩
theorem WrC.keep (h : WrC W F g bs0 cl L B w) (j : Nat) (hj : cl.all (fun d => d.k != j && d.c != j) = true) : WrC W F g bs0 cl (onL L j) B w := by
  obtain ⟨n, F', h1, h2, h3, h4, h5, h6⟩ := h
  have hk : ∀ d ∈ cl, onL L j d.k = L d.k ∧ onL L j d.c = L d.c := fun d hd => by
    have := List.all_eq_true.1 hj d hd
    simp only [Bool.and_eq_true, bne_iff_ne, ne_eq] at this
    exact ⟨if_neg this.1, if_neg this.2⟩
  refine ⟨n, F', h1, fun i d hd => ?_, h3, h4, h5, fun d hd hl => h6 d hd ?_⟩
  · rw [(hk d (List.mem_of_getElem? hd)).2]
    exact h2 i d hd
  · rw [← (hk d hd).1]
    exact hl
theorem WrC.make (h : WrC W F g bs0 cl L B w) (k : Nat) (t : TypeId) (cs : Array Value) (hu : ∀ d ∈ cl, d.k = k → d.t = t ∧ d.cs = cs) (hc : cl.all (fun d => d.c != k) = true) : WrC W F g bs0 cl (onL L k) (updB B k (w.heap.size, none)) (w.alloc (.cells cs t)) := by
  obtain ⟨n, F', h1, h2, h3, h4, h5, h6⟩ := h
  refine ⟨n, F', h1, fun i d hd => ?_, h3.alloc _, h4.alloc _, h5, fun d hd hl => ?_⟩
  · have := List.all_eq_true.1 hc d (List.mem_of_getElem? hd)
    rw [bne_iff_ne] at this
    rw [show onL L k d.c = L d.c from if_neg this]
    exact h2 i d hd
  · by_cases hk : d.k = k
    · obtain ⟨e1, e2⟩ := hu d hd hk
      rw [show updB B k (w.heap.size, none) d.k = (w.heap.size, none) from if_pos hk, e1, e2]
      exact ⟨Blk.new w t cs, fun hF => by have := h3.bound _ hF; omega⟩
    · rw [show onL L k d.k = L d.k from if_neg hk] at hl
      rw [show updB B k (w.heap.size, none) d.k = B d.k from if_neg hk]
      obtain ⟨g1, g2⟩ := h6 d hd hl
      exact ⟨g1.alloc _, g2⟩
theorem WrC.call (h : WrC W F g bs0 cl L B w) (m : Nat) (d : CallD) (hd : cl[m]? = some d) (hL : L d.c = false) (hk : L d.k = true) (hp : m = 0 ∨ ∃ m' d', m = m' + 1 ∧ cl[m']? = some d' ∧ L d'.c = true) (hu : cl.all (fun e => e.k != d.c) = true) (hu3 : noDup (cl.map (·.c)) = true) :
    ∃ F', IsWr w F' g (W8 (bs0 ++ callsB (cl.take m))) ∧ Blk w (B d.k).1 d.t d.cs ∧ ¬ F' (B d.k).1 ∧ (∀ k, F' k → F k ∨ W.heap.size ≤ k) ∧ ∀ w', WrTo w F' g (W8 ((bs0 ++ callsB (cl.take m)) ++ d.bs)) w' → WrC W F g bs0 cl (onL L d.c) B w' := by
  have hu2 : ∀ i e, cl[i]? = some e → i ≠ m → e.c ≠ d.c := fun i e he hi => noDup_ne hu3 i m e.c d.c (by simp [he]) (by simp [hd]) hi
  obtain ⟨n, F', h1, h2, h3, h4, h5, h6⟩ := h
  have hml : m < cl.length := (List.getElem?_eq_some_iff.1 hd).1
  have e1 := h2 m d hd
  rw [hL] at e1
  have e2 : ¬ m < n := of_decide_eq_false e1.symm
  have e3 : n = m := by
    rcases hp with rfl | ⟨m', d', rfl, hd', hl'⟩
    · omega
    · have := h2 m' d' hd'
      rw [hl'] at this
      have := of_decide_eq_true this.symm
      omega
  subst e3
  obtain ⟨g1, g2⟩ := h6 d (List.mem_of_getElem? hd) hk
  refine ⟨F', h3, g1, g2, h5, fun w' ht => ?_⟩
  obtain ⟨F'', t1, t2, t3⟩ := ht
  have hsz := h4.size
  refine ⟨n + 1, F'', by omega, fun i e he => ?_, ?_, h4.trans t2 h5, fun k hk => (t3 k hk).elim (h5 k) (fun h => .inr (by omega)), fun e he hl => ?_⟩
  · by_cases hi : i = n
    · subst hi
      rw [hd] at he
      injection he with he
      subst he
      rw [show onL L d.c d.c = true from if_pos rfl]
      exact (decide_eq_true (by omega)).symm
    · rw [show onL L d.c e.c = L e.c from if_neg (hu2 i e he hi), h2 i e he]
      by_cases h : i < n
      · rw [decide_eq_true h, decide_eq_true (by omega : i < n + 1)]
      · rw [decide_eq_false h, decide_eq_false (by omega : ¬ i < n + 1)]
  · have : callsB (cl.take (n + 1)) = callsB (cl.take n) ++ d.bs := by
      unfold callsB
      rw [List.take_add_one, hd]
      simp
    rw [this, ← List.append_assoc]
    exact t1
  · have hne := List.all_eq_true.1 hu e he
    rw [bne_iff_ne] at hne
    rw [show onL L d.c e.k = L e.k from if_neg hne] at hl
    obtain ⟨g3, g4⟩ := h6 e he hl
    refine ⟨g3.fr t2 g4, fun hF => (t3 _ hF).elim g4 (fun h => ?_)⟩
    have := g3.lt
    omega
theorem WrC.done (h : WrC W F g bs0 cl L B w) (hL : ∀ d ∈ cl, L d.c = true) : WrTo W F g (W8 (bs0 ++ callsB cl)) w := by
  obtain ⟨n, F', h1, h2, h3, h4, h5, h6⟩ := h
  have hn : n = cl.length := by
    rcases Nat.lt_or_ge n cl.length with hlt | hge
    · have h7 := h2 n cl[n] (List.getElem?_eq_getElem hlt)
      rw [hL _ (List.getElem_mem hlt)] at h7
      have := of_decide_eq_true h7.symm
      omega
    · omega
  rw [hn, List.take_length] at h3
  exact ⟨F', h3, h4, h5⟩
/-- As 'WrC', and at 'dk' the writer's bytes are told. -/
def WrD (W : World) (F : Nat → Prop) (g : Nat) (bs0 : List UInt8) (cl : List CallD) (dk : Nat) (L : Nat → Bool) (B : Bk) (w : World) : Prop :=
  WrC W F g bs0 cl L B w ∧ (L dk = true → (∀ d ∈ cl, L d.c = true) ∧ Own w 5 1 (B dk).2 (bs0 ++ callsB cl).length (B dk).1 ((bs0 ++ callsB cl).map B8) ∧ ∀ k, inA (B dk).2 k → W.heap.size ≤ k)
theorem WrD.fr {dk : Nat} (h : WrD W F g bs0 cl dk L B w) : Fr F W w := h.1.fr
theorem WrD.start {dk : Nat} (h : IsWr W F g (W8 bs0)) (B : Bk) : WrD W F g bs0 cl dk (fun _ => false) B W.drew := ⟨WrC.start h B, fun h => by cases h⟩
theorem WrD.keep {dk : Nat} (h : WrD W F g bs0 cl dk L B w) (j : Nat) (hj : cl.all (fun d => d.k != j && d.c != j) = true) (hjd : (dk != j) = true := by rfl) : WrD W F g bs0 cl dk (onL L j) B w := by
  refine ⟨h.1.keep j hj, fun hl => ?_⟩
  rw [bne_iff_ne] at hjd
  rw [show onL L j dk = L dk from if_neg hjd] at hl
  obtain ⟨h1, h2, h3⟩ := h.2 hl
  refine ⟨fun d hd => ?_, h2, h3⟩
  have := List.all_eq_true.1 hj d hd
  simp only [Bool.and_eq_true, bne_iff_ne, ne_eq] at this
  rw [show onL L j d.c = L d.c from if_neg this.2]
  exact h1 d hd
theorem WrD.make {dk : Nat} (h : WrD W F g bs0 cl dk L B w) (k : Nat) (t : TypeId) (cs : Array Value) (hu : ∀ d ∈ cl, d.k = k → d.t = t ∧ d.cs = cs) (hc : cl.all (fun d => d.c != k) = true) (hkd : (dk != k) = true := by rfl) : WrD W F g bs0 cl dk (onL L k) (updB B k (w.heap.size, none)) (w.alloc (.cells cs t)) := by
  refine ⟨h.1.make k t cs hu hc, fun hl => ?_⟩
  rw [bne_iff_ne] at hkd
  rw [show onL L k dk = L dk from if_neg hkd] at hl
  obtain ⟨h1, h2, h3⟩ := h.2 hl
  rw [show updB B k (w.heap.size, none) dk = B dk from if_neg hkd]
  refine ⟨fun d hd => ?_, h2.fr ((Fr.refl (fun _ => False) w).alloc _) (fun _ _ h => h), h3⟩
  have := List.all_eq_true.1 hc d hd
  rw [bne_iff_ne] at this
  rw [show onL L k d.c = L d.c from if_neg this]
  exact h1 d hd
theorem WrD.call {dk : Nat} (h : WrD W F g bs0 cl dk L B w) (m : Nat) (d : CallD) (hd : cl[m]? = some d) (hL : L d.c = false) (hk : L d.k = true) (hp : m = 0 ∨ ∃ m' d', m = m' + 1 ∧ cl[m']? = some d' ∧ L d'.c = true) (hu : cl.all (fun e => e.k != d.c) = true) (hu3 : noDup (cl.map (·.c)) = true) (hdc : (dk != d.c) = true := by rfl) :
    ∃ F', IsWr w F' g (W8 (bs0 ++ callsB (cl.take m))) ∧ Blk w (B d.k).1 d.t d.cs ∧ ¬ F' (B d.k).1 ∧ (∀ k, F' k → F k ∨ W.heap.size ≤ k) ∧ ∀ w', WrTo w F' g (W8 ((bs0 ++ callsB (cl.take m)) ++ d.bs)) w' → WrD W F g bs0 cl dk (onL L d.c) B w' := by
  obtain ⟨F', h1, h2, h3, h4, h5⟩ := h.1.call m d hd hL hk hp hu hu3
  refine ⟨F', h1, h2, h3, h4, fun w' ht => ⟨h5 w' ht, fun hl => ?_⟩⟩
  rw [bne_iff_ne] at hdc
  rw [show onL L d.c dk = L dk from if_neg hdc] at hl
  have := (h.2 hl).1 d (List.mem_of_getElem? hd)
  rw [hL] at this
  cases this
/-- The last call put its bytes. -/
theorem WrC.all (h : WrC W F g bs0 cl L B w) (m : Nat) (d : CallD) (hm : cl.length = m + 1) (hd : cl[m]? = some d) (hl : L d.c = true) : (∀ d ∈ cl, L d.c = true) ∧ ∃ F', IsWr w F' g (W8 (bs0 ++ callsB cl)) ∧ ∀ k, F' k → F k ∨ W.heap.size ≤ k := by
  obtain ⟨n, F', h1, h2, h3, h4, h5, h6⟩ := h
  have h7 := h2 m d hd
  rw [hl] at h7
  have h8 := of_decide_eq_true h7.symm
  have hn : n = cl.length := by omega
  refine ⟨fun e he => ?_, F', by rw [hn, List.take_length] at h3; exact h3, h5⟩
  obtain ⟨i, hi, rfl⟩ := List.mem_iff_getElem.1 he
  rw [h2 i _ (List.getElem?_eq_getElem hi)]
  exact decide_eq_true (by omega)
theorem WrD.fin {dk : Nat} (h : WrD W F g bs0 cl dk L B w) (m : Nat) (d : CallD) (hm : cl.length = m + 1) (hd : cl[m]? = some d) (hl : L d.c = true) (hu : cl.all (fun e => e.k != dk && e.c != dk) = true) :
    ∃ F', IsWr w F' g (W8 (bs0 ++ callsB cl)) ∧ ∀ A c w', Own w' 5 1 A (bs0 ++ callsB cl).length c ((bs0 ++ callsB cl).map B8) → Nw w w' → (∀ k, inA A k → w.heap.size ≤ k) → WrD W F g bs0 cl dk (onL L dk) (updB B dk (c, A)) w' := by
  obtain ⟨h1, F', h2, h3⟩ := h.1.all m d hm hd hl
  refine ⟨F', h2, fun A c w' ho hf hA => ⟨?_, fun _ => ?_⟩⟩
  · obtain ⟨n, F'', g1, g2, g3, g4, g5, g6⟩ := h.1
    have hne : ∀ e ∈ cl, e.k ≠ dk ∧ e.c ≠ dk := fun e he => by
      have := List.all_eq_true.1 hu e he
      simpa only [Bool.and_eq_true, bne_iff_ne, ne_eq] using this
    refine ⟨n, F'', g1, fun i e he => ?_, g3.fr hf (fun _ _ h => h), g4.tr (hf.mono (fun _ h => h.elim)), g5, fun e he hl2 => ?_⟩
    · rw [show onL L dk e.c = L e.c from if_neg (hne e (List.mem_of_getElem? he)).2]
      exact g2 i e he
    · rw [show onL L dk e.k = L e.k from if_neg (hne e he).1] at hl2
      rw [show updB B dk (c, A) e.k = B e.k from if_neg (hne e he).1]
      obtain ⟨k1, k2⟩ := g6 e he hl2
      exact ⟨k1.fr hf (fun h => h), k2⟩
  · have hne : ∀ e ∈ cl, e.c ≠ dk := fun e he => by
      have := List.all_eq_true.1 hu e he
      simp only [Bool.and_eq_true, bne_iff_ne, ne_eq] at this
      exact this.2
    rw [updB_at]
    refine ⟨fun e he => ?_, ho, fun k hk => Nat.le_trans h.1.fr.size (hA k hk)⟩
    rw [show onL L dk e.c = L e.c from if_neg (hne e he)]
    exact h1 e he
theorem WrD.told {dk : Nat} (h : WrD W F g bs0 cl dk L B w) (hl : L dk = true) : Own w 5 1 (B dk).2 (bs0 ++ callsB cl).length (B dk).1 ((bs0 ++ callsB cl).map B8) ∧ (∀ k, inA (B dk).2 k → W.heap.size ≤ k) ∧ Fr F W w :=
  ⟨(h.2 hl).2.1, (h.2 hl).2.2, h.1.fr⟩
end
end Go.Proofs.Ytippdjaakcgeoaa
