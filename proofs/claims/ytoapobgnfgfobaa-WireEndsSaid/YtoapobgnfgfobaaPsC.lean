/- Past: a past is one; what it tells. -/
import Derived.Test.YtoapobgnfgfobaaPsB
namespace Go.Proofs.Ytoapobgnfgfobaa
open Go Go.RowKit

abbrev PtrV (g : Nat) : Value := .pointer (some ⟨g, 0, none⟩)
def IsPast (w : World) (g : Nat) (p : Pst) : Prop := p.length = 8 ∧ Blk w g 108 (p.map I64 ++ [Value.bool true]).toArray
theorem IsPast.made {w : World} {g : Nat} {p : Pst} (h : IsPast w g p) : w.cell? ⟨g, 8, none⟩ = some (.bool true) := by
  rw [h.2.cell]
  simp [h.1]
theorem IsPast.num {w : World} {g : Nat} {p : Pst} (h : IsPast w g p) {i : Nat} (hi : i < 8) : w.cell? ⟨g, i, none⟩ = some (I64 (p.getD i 0)) := by
  rw [h.2.cell]
  simp [h.1, hi, List.getD_eq_getElem?_getD, List.getElem?_append_left]
theorem IsPast.fr {w w' : World} {S : Nat → Prop} {g : Nat} {p : Pst} (h : IsPast w g p) (hf : Fr S w w') (hg : ¬ S g) : IsPast w' g p := ⟨h.1, h.2.fr hf hg⟩

theorem knownc_any (w : World) (g : Nat) (h : w.cell? ⟨g, 8, none⟩ = some (.bool true)) : Calls Try.prog 87 #[PtrV g] w fun e w' => e = .returned (.bool false) ∧ w = w' := by
  go_enter Try.func87, Try.ntmps87
  go_wp2_with fail
  go_ret
  exact ⟨rfl, rfl⟩

def KnownTo (w : World) (n : Nat) (i : Value) (wx : World) : Prop := ∃ k : Nat, k ≤ n ∧ i = .int .i64 k ∧ wx = w
set_option maxRecDepth 100000 in
theorem indexPast_any (w : World) (F : Nat → Prop) (A : Option Addr) (c : Nat) (gs : List Nat) (hs : Sl w F A (gs.map PtrV)) (hp : ∀ g ∈ gs, w.cell? ⟨g, 8, none⟩ = some (.bool true)) (hl : gs.length ≤ 1000000000) :
    Calls Try.prog 110 #[.slice A gs.length c, .func (.func 87) #[] #[]] w fun e w' => e = .returned (.int .i64 (-1)) ∧ w = w' := by
  go_enter Try.func110, Try.ntmps110
  go_wp2_with fail
  go_loopw [8] (fun i wx => KnownTo w gs.length i wx) (fun i _ => gs.length - (intOf i).toNat)
  case atStart => exact ⟨0, Nat.zero_le _, rfl, rfl⟩
  case round =>
    obtain ⟨k, hk, rfl, rfl⟩ := hrel
    by_cases hlt : k < gs.length
    · obtain ⟨b, o, rfl, hF, hc⟩ := hs.get hlt
      have hm := hp _ (List.getElem_mem hlt)
      have HP := Lib.hid hp
      clear hp
      go_wp2_with (go_at_call 87; refine (knownc_any _ _ hm).mono ?_; rintro e w1 ⟨rfl, rfl⟩)
      go_roundw
      case rel => exact ⟨k + 1, by omega, rfl, rfl⟩
      case measure => simp [intOf]; omega
    · go_wp2_with fail
      go_ret
      exact ⟨rfl, rfl⟩
theorem containsPast_any (w : World) (F : Nat → Prop) (A : Option Addr) (c : Nat) (gs : List Nat) (hs : Sl w F A (gs.map PtrV)) (hp : ∀ g ∈ gs, w.cell? ⟨g, 8, none⟩ = some (.bool true)) (hl : gs.length ≤ 1000000000) :
    Calls Try.prog 86 #[.slice A gs.length c, .func (.func 87) #[] #[]] w fun e w' => e = .returned (.bool false) ∧ w = w' := by
  have hcon := indexPast_any w F A c gs hs hp hl
  clear hs hp
  go_enter Try.func86, Try.ntmps86
  go_wp2_with (go_at_call 110; refine hcon.mono ?_; rintro e w1 ⟨rfl, rfl⟩)
  go_ret
  exact ⟨rfl, rfl⟩
theorem pastKnown_any (w : World) (F : Nat → Prop) (A : Option Addr) (c : Nat) (gs : List Nat) (hs : Sl w F A (gs.map PtrV)) (hp : ∀ g ∈ gs, w.cell? ⟨g, 8, none⟩ = some (.bool true)) (hl : gs.length ≤ 1000000000) :
    Calls Try.prog 66 #[.slice A gs.length c] w fun e w' => e = .returned (.bool true) ∧ w = w' := by
  have hcon := containsPast_any w F A c gs hs hp hl
  clear hs hp
  go_enter Try.func66, Try.ntmps66
  go_wp2_with (go_at_call 86; refine hcon.mono ?_; rintro e w1 ⟨rfl, rfl⟩)
  go_ret
  exact ⟨rfl, rfl⟩
/-- The slice of one past, as each method lays it. -/
theorem known1_any (w : World) (g : Nat) (p : Pst) (h : IsPast w g p) : Calls Try.prog 66 #[.slice (some ⟨w.heap.size, 0, none⟩) 1 1] (w.alloc (.cells #[PtrV g] 27)) fun e w' => e = .returned (.bool true) ∧ w.alloc (.cells #[PtrV g] 27) = w' := by
  refine pastKnown_any _ _ _ 1 [g] ((Blk.new w 27 #[PtrV g]).sl 0 1) (fun k hk => ?_) (by simp)
  obtain rfl : k = g := by simpa using hk
  exact (h.fr (S := fun _ => False) ((Fr.refl _ w).alloc _) (fun h => h)).made
theorem pastNew_any (w : World) : Calls Try.prog 12 #[] w fun e w' => e = .returned (PtrV w.heap.size) ∧ IsPast w' w.heap.size pNew ∧ Nw w w' := by
  go_enter Try.func12, Try.ntmps12
  go_wp2_with fail
  go_ret
  exact ⟨rfl, ⟨rfl, Blk.new _ _ _⟩, (Fr.refl _ w).alloc _⟩
end Go.Proofs.Ytoapobgnfgfobaa
