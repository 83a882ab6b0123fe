/- WireEnds: what a nil and an unmade writer and reader answer. -/
import Derived.Test.YtoapobgnfgfobaaL02S
namespace Go.Proofs.Ytoapobgnfgfobaa
open Go Go.RowKit

/-- No writer: nil, or one that NewWriter has not made. -/
def NoWr (w : World) (p : Option Addr) : Prop := p = none ∨ ∃ g, p = some ⟨g, 0, none⟩ ∧ Blk w g 95 #[.bool false, .bool false, .slice none 0 0]
def NoRd (w : World) (p : Option Addr) : Prop := p = none ∨ ∃ g, p = some ⟨g, 0, none⟩ ∧ Blk w g 99 #[.bool false, .bool false, .slice none 0 0]
theorem NoWr.nw {w w' : World} {p : Option Addr} (h : NoWr w p) (q : Nw w w') : NoWr w' p := by
  rcases h with rfl | ⟨g, rfl, hb⟩
  · exact .inl rfl
  · exact .inr ⟨g, rfl, hb.fr q (fun h => h)⟩
theorem NoRd.nw {w w' : World} {p : Option Addr} (h : NoRd w p) (q : Nw w w') : NoRd w' p := by
  rcases h with rfl | ⟨g, rfl, hb⟩
  · exact .inl rfl
  · exact .inr ⟨g, rfl, hb.fr q (fun h => h)⟩

theorem known_no (w : World) (p : Option Addr) (h : NoWr w p) : Calls Try.prog 69 #[.pointer p] w fun e w' => e = .returned (.bool false) ∧ w = w' := by
  rcases h with rfl | ⟨g, rfl, hb⟩
  · go_enter Try.func69, Try.ntmps69
    go_wp2
    go_ret
    exact ⟨rfl, rfl⟩
  · have c0 := hb.cell 0
    simp at c0
    go_enter Try.func69, Try.ntmps69
    go_wp2
    go_ret
    exact ⟨rfl, rfl⟩
theorem on_no (w : World) (p : Option Addr) (h : NoRd w p) : Calls Try.prog 71 #[.pointer p] w fun e w' => e = .returned (.bool false) ∧ w = w' := by
  rcases h with rfl | ⟨g, rfl, hb⟩
  · go_enter Try.func71, Try.ntmps71
    go_wp2
    go_ret
    exact ⟨rfl, rfl⟩
  · have c0 := hb.cell 0
    simp at c0
    go_enter Try.func71, Try.ntmps71
    go_wp2
    go_ret
    exact ⟨rfl, rfl⟩

section
variable (w : World) (p : Option Addr)
theorem numbers_no (h : NoWr w p) (x : Value) : Calls Try.prog 35 #[.pointer p, x] w fun e w' => e = .returned (.pointer p) ∧ w = w' := by
  have hk := known_no w p h
  go_enter Try.func35, Try.ntmps35
  go_wp2_with (go_at_call 69; refine hk.mono ?_; rintro e w' ⟨rfl, rfl⟩)
  go_ret
  exact ⟨rfl, rfl⟩
theorem flags_no (h : NoWr w p) (x : Value) : Calls Try.prog 39 #[.pointer p, x] w fun e w' => e = .returned (.pointer p) ∧ w = w' := by
  have hk := known_no w p h
  go_enter Try.func39, Try.ntmps39
  go_wp2_with (go_at_call 69; refine hk.mono ?_; rintro e w' ⟨rfl, rfl⟩)
  go_ret
  exact ⟨rfl, rfl⟩
theorem texts_no (h : NoWr w p) (x : Value) : Calls Try.prog 40 #[.pointer p, x] w fun e w' => e = .returned (.pointer p) ∧ w = w' := by
  have hk := known_no w p h
  go_enter Try.func40, Try.ntmps40
  go_wp2_with (go_at_call 69; refine hk.mono ?_; rintro e w' ⟨rfl, rfl⟩)
  go_ret
  exact ⟨rfl, rfl⟩
theorem rows_no (h : NoWr w p) (x : Value) : Calls Try.prog 41 #[.pointer p, x] w fun e w' => e = .returned (.pointer p) ∧ w = w' := by
  have hk := known_no w p h
  go_enter Try.func41, Try.ntmps41
  go_wp2_with (go_at_call 69; refine hk.mono ?_; rintro e w' ⟨rfl, rfl⟩)
  go_ret
  exact ⟨rfl, rfl⟩
theorem done_no (h : NoWr w p) : Calls Try.prog 25 #[.pointer p] w fun e w' => e = .returned (.tuple #[.slice none 0 0, .int .i64 1]) ∧ w = w' := by
  have hk := known_no w p h
  go_enter Try.func25, Try.ntmps25
  go_wp2_with (go_at_call 69; refine hk.mono ?_; rintro e w' ⟨rfl, rfl⟩)
  go_ret2
  exact ⟨rfl, rfl⟩
theorem number_no (h : NoRd w p) (m : Int) : Calls Try.prog 33 #[.pointer p, .int .i64 m] w fun e w' => e = .returned (.int .i64 0) ∧ w = w' := by
  have hk := on_no w p h
  go_enter Try.func33, Try.ntmps33
  go_wp2_with (go_at_call 71; refine hk.mono ?_; rintro e w' ⟨rfl, rfl⟩)
  go_ret
  exact ⟨rfl, rfl⟩
theorem flag_no (h : NoRd w p) : Calls Try.prog 49 #[.pointer p] w fun e w' => e = .returned (.bool false) ∧ w = w' := by
  have hk := on_no w p h
  go_enter Try.func49, Try.ntmps49
  go_wp2_with (go_at_call 71; refine hk.mono ?_; rintro e w' ⟨rfl, rfl⟩)
  go_ret
  exact ⟨rfl, rfl⟩
theorem row_no (h : NoRd w p) (m : Int) : Calls Try.prog 53 #[.pointer p, .int .i64 m] w fun e w' => e = .returned (.slice none 0 0) ∧ w = w' := by
  have hk := on_no w p h
  have hn := number_no w p h m
  go_enter Try.func53, Try.ntmps53
  go_wp2_with (first | (go_at_call 33; refine hn.mono ?_; rintro e w' ⟨rfl, rfl⟩) | (go_at_call 71; refine hk.mono ?_; rintro e w' ⟨rfl, rfl⟩))
  go_ret
  exact ⟨rfl, rfl⟩
set_option maxRecDepth 100000 in
theorem text_no (h : NoRd w p) (m : Int) : Calls Try.prog 51 #[.pointer p, .int .i64 m] w fun e w' => e = .returned (.string ⟨#[]⟩) ∧ w = w' := by
  have hn := row_no w p h m
  have hc : (convert 43 9 (.slice none 0 0)).run Try.prog w = .ok (.string ⟨#[]⟩) w := run_text_sl w (fun _ => False) none 0 [] (Sl.nil _ _ _)
  go_enter Try.func51, Try.ntmps51
  go_wp2_with (go_at_call 53; refine hn.mono ?_; rintro e w' ⟨rfl, rfl⟩)
  go_ret
  exact ⟨rfl, rfl⟩
theorem left_no (h : NoRd w p) : Calls Try.prog 32 #[.pointer p] w fun e w' => e = .returned (.int .i64 0) ∧ w = w' := by
  have hk := on_no w p h
  go_enter Try.func32, Try.ntmps32
  go_wp2_with (go_at_call 71; refine hk.mono ?_; rintro e w' ⟨rfl, rfl⟩)
  go_ret
  exact ⟨rfl, rfl⟩
theorem end_no (h : NoRd w p) : Calls Try.prog 34 #[.pointer p] w fun e w' => e = .returned (.int .i64 1) ∧ w = w' := by
  rcases h with rfl | ⟨g, rfl, hb⟩
  · go_enter Try.func34, Try.ntmps34
    go_wp2
    go_ret
    exact ⟨rfl, rfl⟩
  · have c0 := hb.cell 0
    simp at c0
    go_enter Try.func34, Try.ntmps34
    go_wp2
    go_ret
    exact ⟨rfl, rfl⟩
end
end Go.Proofs.Ytoapobgnfgfobaa
