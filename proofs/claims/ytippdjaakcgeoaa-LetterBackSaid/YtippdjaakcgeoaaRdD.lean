/- The program's reader: texts, what is left, the end. -/
import Derived.Test.YtippdjaakcgeoaaRdC
namespace Go.Proofs.Ytippdjaakcgeoaa
open Go Go.RowKit

/-- 'string(b)'. -/
theorem run_text_sl (w : World) (F : Nat → Prop) (A : Option Addr) (c : Nat) (bs : List UInt8) (h : Sl w F A (bs.map B8)) :
    (convert 38 9 (.slice A bs.length c)).run Try.prog w = .ok (.string ⟨bs.toArray⟩) w := by
  cases A with
  | none =>
    have hb : bs = [] := by
      rcases h with h | ⟨b, o, h, _⟩
      · simpa using h
      · cases h
    subst hb
    exact run_convert_bytes_nil w 38 5 Try.underlying38 Try.underlying5 0 c 9 Try.underlying9
  | some a =>
    rw [run_convert_bytes_string w 38 9 5 _ _ c Try.underlying38 Try.underlying5 Try.underlying9]
    have hl : (loadCells a bs.length).run Try.prog w = .ok ((bs.map fun b => (b.toNat : Int)).map (Value.int .u8)).toArray w := by
      have := run_loadCells_list (P := Try.prog) w a (bs.map B8) (fun j v hj => by
        rcases h with h | ⟨b, o, h, _, _, hc⟩
        · rw [h] at hj; simp at hj
        · injection h with h
          subst h
          rw [Addr.add_lit]
          exact hc j v hj)
      rw [List.length_map] at this
      rw [this, List.map_map]
      rfl
    rw [run_bytesToString w a bs.length c _ hl, foldl_push_bytes]
    congr 2
    simp [ByteArray.empty, ByteArray.emptyWithCapacity]
    show List.map ((fun n : Int => UInt8.ofNat n.toNat) ∘ fun b : UInt8 => (b.toNat : Int)) bs = bs
    rw [show ((fun n : Int => UInt8.ofNat n.toNat) ∘ fun b : UInt8 => (b.toNat : Int)) = id from funext fun b => by simp]
    simp

theorem rdleft_any (w : World) (F : Nat → Prop) (g : Nat) (s : Rd) (h : IsRd w F g s) :
    Calls Try.prog 63 #[.pointer (some ⟨g, 0, none⟩)] w fun e w' => e = .returned (.int .i64 (rdLeft s : Nat)) ∧ w = w' := by
  cases s with
  | none =>
    go_enter Try.func63, Try.ntmps63
    go_wp2_with (go_at_call 85; refine (ron_any _ _ _ _ h).mono ?_; rintro e w' ⟨rfl, rfl⟩)
    go_ret
    exact ⟨rfl, rfl⟩
  | some bs =>
    obtain ⟨A, cap, hb, _⟩ := id h
    have c2 := hb.cell 2
    simp at c2
    go_enter Try.func63, Try.ntmps63
    go_wp2_with (go_at_call 85; refine (ron_any _ _ _ _ h).mono ?_; rintro e w' ⟨rfl, rfl⟩)
    go_ret
    exact ⟨rfl, rfl⟩

/-?-/
theorem rdend_any (w : World) (F : Nat → Prop) (g : Nat) (s : Rd) (h : IsRd w F g s) :
    Calls Try.prog 65 #[.pointer (some ⟨g, 0, none⟩)] w fun e w' => e = .returned (.int .i64 (rdEnd s)) ∧ w = w' := by
  cases s with
  | none =>
    have c0 := h.1.cell 0
    have c1 := h.1.cell 1
    simp at c0 c1
    go_enter Try.func65, Try.ntmps65
    go_wp2
    go_ret
    exact ⟨rfl, rfl⟩
  | some bs =>
    obtain ⟨A, cap, hb, _⟩ := id h
    have c0 := hb.cell 0
    have c1 := hb.cell 1
    have c2 := hb.cell 2
    simp at c0 c1 c2
    cases bs with
    | nil =>
      go_enter Try.func65, Try.ntmps65
      go_wp2
      go_ret
      exact ⟨rfl, rfl⟩
    | cons b r =>
      have hpos : (0 : Int) < (((b :: r).length : Nat) : Int) := by simp
      go_enter Try.func65, Try.ntmps65
      go_wp2
      go_ret
      exact ⟨rfl, rfl⟩
end Go.Proofs.Ytippdjaakcgeoaa
