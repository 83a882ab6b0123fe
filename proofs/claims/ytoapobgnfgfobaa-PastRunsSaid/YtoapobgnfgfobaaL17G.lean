/- PastGrows: whatever names are raised, in whatever order and rows, it is the same past: the walk where a name is wrong. -/
import Derived.Test.YtoapobgnfgfobaaNmA
import Derived.Deep.DeepCutAuto
namespace Go.Proofs.Ytoapobgnfgfobaa
open Go Go.RowKit

theorem pastRaise_len (w : World) (F : Nat → Prop) (A : Option Addr) (n c : Nat) (l : List Nm) (hn : l.length = n) (hs : Sl w F A (nmCells l)) (hl : l.length ≤ 1000000000) (g : Nat) (p : Pst) (h : IsPast w g p) (hg : ¬ F g) :
    Calls Try.prog 16 #[PtrV g, .slice A n c] w fun e w' => e = .returned (.int .i64 (raiseE l)) ∧ IsPast w' g (raiseP l p) ∧ Fr (· = g) w w' := by
  subst hn
  exact pastRaise_any w F A c l hs hl g p h hg

/-- What the region of appends hands on. -/
def OwnNm (w0 : World) (l : List Nm) (v : Value) (wr : World) : Prop :=
  ∃ A c, v = .slice A l.length c ∧ Own wr 53 2 A l.length c (nmCells l) ∧ Nw w0 wr ∧ ∀ k, inA A k → w0.heap.size ≤ k

theorem raise_wrong (l : List Nm) (p : Pst) (h : allOk l = false) : raiseE l = 2 ∧ raiseP l p = p := by
  unfold raiseE raiseP
  rw [h]
  exact ⟨rfl, rfl⟩
theorem raise_right (l : List Nm) (p : Pst) (h : allOk l = true) : raiseE l = 0 ∧ raiseP l p = pRaise p l := by
  unfold raiseE raiseP
  rw [h]
  exact ⟨rfl, rfl⟩
theorem allOk_append (a b : List Nm) : allOk (a ++ b) = (allOk a && allOk b) := by
  unfold allOk
  rw [← Bool.decide_and]
  congr 1
  simp only [List.mem_append, eq_iff_iff]
  exact ⟨fun h => ⟨fun x hx => h x (.inl hx), fun x hx => h x (.inr hx)⟩, fun h x hx => hx.elim (h.1 x) (h.2 x)⟩

set_option maxRecDepth 100000 in
set_option maxHeartbeats 2000000 in
theorem grows_bad (w : World) (A0 A1 : Option Addr) (c0 c1 : Nat) (a b : List Nm) (x : Int) (ha : Sl w (· < w.heap.size) A0 (nmCells a)) (hb : Sl w (· < w.heap.size) A1 (nmCells b)) (hle : a.length + b.length ≤ 1000) (hbad : allOk (a ++ b) = false) :
    Calls Try.prog 10 #[.slice A0 a.length c0, .slice A1 b.length c1, .int .i64 x] w fun e w' => e = .returned (.bool true) ∧ Nw w w' := by
  have hra := fun (W : World) (hs : Sl W (· < w.heap.size) A0 (nmCells a)) => pastRight_any W (· < w.heap.size) A0 c0 a hs (by omega)
  have hrb := fun (W : World) (hs : Sl W (· < w.heap.size) A1 (nmCells b)) => pastRight_any W (· < w.heap.size) A1 c1 b hs (by omega)
  have hraise := fun (W : World) (F : Nat → Prop) (A : Option Addr) (c g : Nat) (hs : Sl W F A (nmCells (a ++ b))) (hp : IsPast W g pNew) (hg : ¬ F g) => pastRaise_len W F A (a.length + b.length) c (a ++ b) (by simp) hs (by simp; omega) g pNew hp hg
  obtain ⟨hr1, hr2⟩ := raise_wrong (a ++ b) pNew hbad
  rw [hr1, hr2] at hraise
  have HR := Lib.hid hraise
  clear hraise hr1 hr2
  rw [allOk_append] at hbad
  have hpart : allOk a = false ∨ (allOk a = true ∧ allOk b = false) := by
    cases h : allOk a
    · exact .inl rfl
    · rw [h] at hbad; exact .inr ⟨rfl, by simpa using hbad⟩
  clear hbad
  rcases hpart with h1 | ⟨h1, h2⟩
  · rw [h1] at hra
    have HA := Lib.hid hra
    clear hra h1
    go_enter Try.func10, Try.ntmps10
    go_wp2_with fail
    refine (awake17 _).mono ?_
    rintro e w1 ⟨rfl, q1⟩
    go_wp2_with fail
    refine (HA.out _ (ha.fr q1 (fun _ _ h => h))).mono ?_
    rintro e w2 ⟨rfl, q2⟩
    have q3 := q1.tr q2
    clear q1 q2
    go_wp2_with fail
    refine (pastNew_any _).mono ?_
    rintro e w4 ⟨rfl, hp, q4⟩
    have hgl := hp.2.lt
    have hgw := q3.size
    have q5 := q3.tr q4
    have hsz5 := q5.size
    generalize hgp : w2.heap.size = gp at hp hgl hgw ⊢
    clear hgp q4 q3
    have ha5 := (ha.fr q5 (fun _ _ h => h)).alloc (.cells #[] 53)
    have hb5 := (hb.fr q5 (fun _ _ h => h)).alloc (.cells #[] 53)
    have hp5 : IsPast (w4.alloc (.cells #[] 53)) gp pNew := hp.fr (S := fun _ => False) ((Fr.refl _ w4).alloc _) (fun h => h)
    go_wp2_with (first | (at_builtin; refine wl_append2 rfl _ _ _ rfl 16 (.agg #[.int .i64 0, .int .i64 0]) Try.underlying23 info_name rfl (by decide) rfl (Own.new w4 53 2 0 0 #[] (Nat.le_refl _) (by decide) rfl) rfl ha5 (nmCells_len a) (nm_one a) (by omega) (by unfold maxLen; omega) ?_; intro A2 cap2 w5 hap; obtain ⟨ho5, q5', n5⟩ := hap.newOwn ((Fr.refl (fun _ => False) w4).alloc _) (fun k hk => by rw [(inA_some _ _).1 hk]; exact Nat.le_refl _); simp only [Nat.zero_add, List.nil_append, Nat.zero_mul, List.take_zero] at ho5; have hb6 := hb5.fr hap.fr (fun k (h1 : k < w.heap.size) h2 => by have h3 : k = w4.heap.size := (inA_some _ _).1 h2; omega); have hp6 := hp5.fr hap.fr (fun h2 => by have h3 : gp = w4.heap.size := (inA_some _ _).1 h2; omega)) | (at_builtin; refine wl_append2 rfl _ _ _ rfl 16 (.agg #[.int .i64 0, .int .i64 0]) Try.underlying23 info_name rfl (by decide) rfl ho5 rfl hb6 (nmCells_len b) (nm_one b) (by omega) (by unfold maxLen; omega) ?_; intro A3 cap3 w6 hap6))
    obtain ⟨ho6, q6, n6⟩ := hap6.newOwn q5' n5
    rw [← nmCells_append] at ho6
    have hp7 := hp6.fr hap6.fr (fun h => by have := n5 _ h; omega)
    have q7 := q5.tr q6
    clear hap hap6 hb5 hb6 ha5 hp5 hp6 ho5 q5' q5
    go_wp2_with fail
    refine (HR.out _ _ _ _ _ ho6.sl hp7 (fun h => by have := n6 _ h; omega)).mono ?_
    rintro e w7 ⟨rfl, hp8, f7⟩
    have q8 : Nw w w7 := q7.new f7 (fun b hb => by rw [hb]; exact hgw)
    go_wp2_with fail
    refine (pastNew_any _).mono ?_
    rintro e w8 ⟨rfl, hp9, q9⟩
    go_wp2_with fail
    refine (equal17 _ _ _ _ (hp8.fr q9 (fun h => h)) hp9).mono ?_
    rintro e w9 ⟨rfl, q10⟩
    go_wp2_with fail
    go_ret
    exact ⟨rfl, (q8.tr q9).tr q10⟩
  · rw [h1] at hra
    have HA := Lib.hid hra
    clear hra h1
    rw [h2] at hrb
    have HB := Lib.hid hrb
    clear hrb h2
    go_enter Try.func10, Try.ntmps10
    go_wp2_with fail
    refine (awake17 _).mono ?_
    rintro e w1 ⟨rfl, q1⟩
    go_wp2_with fail
    refine (HA.out _ (ha.fr q1 (fun _ _ h => h))).mono ?_
    rintro e w2 ⟨rfl, q2⟩
    have q3 := q1.tr q2
    clear q1 q2
    go_wp2_with fail
    refine (HB.out _ (hb.fr q3 (fun _ _ h => h))).mono ?_
    rintro e w3 ⟨rfl, q4⟩
    have q3' := q3.tr q4
    clear q3 q4
    have q3 := q3'
    clear q3'
    go_wp2_with fail
    refine (pastNew_any _).mono ?_
    rintro e w4 ⟨rfl, hp, q4⟩
    have hgl := hp.2.lt
    have hgw := q3.size
    have q5 := q3.tr q4
    have hsz5 := q5.size
    generalize hgp : w3.heap.size = gp at hp hgl hgw ⊢
    clear hgp q4 q3
    have ha5 := (ha.fr q5 (fun _ _ h => h)).alloc (.cells #[] 53)
    have hb5 := (hb.fr q5 (fun _ _ h => h)).alloc (.cells #[] 53)
    have hp5 : IsPast (w4.alloc (.cells #[] 53)) gp pNew := hp.fr (S := fun _ => False) ((Fr.refl _ w4).alloc _) (fun h => h)
    go_wp2_with (first | (at_builtin; refine wl_append2 rfl _ _ _ rfl 16 (.agg #[.int .i64 0, .int .i64 0]) Try.underlying23 info_name rfl (by decide) rfl (Own.new w4 53 2 0 0 #[] (Nat.le_refl _) (by decide) rfl) rfl ha5 (nmCells_len a) (nm_one a) (by omega) (by unfold maxLen; omega) ?_; intro A2 cap2 w5 hap; obtain ⟨ho5, q5', n5⟩ := hap.newOwn ((Fr.refl (fun _ => False) w4).alloc _) (fun k hk => by rw [(inA_some _ _).1 hk]; exact Nat.le_refl _); simp only [Nat.zero_add, List.nil_append, Nat.zero_mul, List.take_zero] at ho5; have hb6 := hb5.fr hap.fr (fun k (h1 : k < w.heap.size) h2 => by have h3 : k = w4.heap.size := (inA_some _ _).1 h2; omega); have hp6 := hp5.fr hap.fr (fun h2 => by have h3 : gp = w4.heap.size := (inA_some _ _).1 h2; omega)) | (at_builtin; refine wl_append2 rfl _ _ _ rfl 16 (.agg #[.int .i64 0, .int .i64 0]) Try.underlying23 info_name rfl (by decide) rfl ho5 rfl hb6 (nmCells_len b) (nm_one b) (by omega) (by unfold maxLen; omega) ?_; intro A3 cap3 w6 hap6))
    obtain ⟨ho6, q6, n6⟩ := hap6.newOwn q5' n5
    rw [← nmCells_append] at ho6
    have hp7 := hp6.fr hap6.fr (fun h => by have := n5 _ h; omega)
    have q7 := q5.tr q6
    clear hap hap6 hb5 hb6 ha5 hp5 hp6 ho5 q5' q5
    go_wp2_with fail
    refine (HR.out _ _ _ _ _ ho6.sl hp7 (fun h => by have := n6 _ h; omega)).mono ?_
    rintro e w7 ⟨rfl, hp8, f7⟩
    have q8 : Nw w w7 := q7.new f7 (fun b hb => by rw [hb]; exact hgw)
    go_wp2_with fail
    refine (pastNew_any _).mono ?_
    rintro e w8 ⟨rfl, hp9, q9⟩
    go_wp2_with fail
    refine (equal17 _ _ _ _ (hp8.fr q9 (fun h => h)) hp9).mono ?_
    rintro e w9 ⟨rfl, q10⟩
    go_wp2_with fail
    go_ret
    exact ⟨rfl, (q8.tr q9).tr q10⟩
end Go.Proofs.Ytoapobgnfgfobaa
