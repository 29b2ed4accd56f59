/-
  End, Leave and Fail at a nil grove.
-/
import Derived.Test.YtoonkidlbnndcaaNil
import Derived.Deep.RegionLaw
namespace Go.Proofs.Ytoonkidlbnndcaa
set_option linter.unusedVariables false
set_option linter.unusedSimpArgs false
open Go.RowKit

set_option maxRecDepth 100000 in
theorem turned_empty (g : Option Addr) (n : Int) (w : World) : Calls Try.prog 63 #[.pointer g, .slice none 0 0, .int .i64 n] w fun e w' => e = .returned (.tuple #[.slice none 0 0, .int .i64 n]) ∧ Below w.heap.size w w' := by
  go_enter Try.func63, Try.ntmps63
  go_wp2
  refine wp_loop_rounds 1 ?_
  rw [rounds_succ]
  go_wp2
  go_returns
  exact ⟨rfl, by go_grown⟩

set_option maxRecDepth 100000 in
theorem gleave_nil (n : Int) (f : Flt) (w : World) : Calls Try.prog 38 #[.pointer none, .int .i64 n, fltV f] w fun e w' => e = .returned (.tuple #[.slice none 0 0, .int .i64 2]) ∧ Below w.heap.size w w' := by
  have C : Hid (∀ W, _) := fun W => leave_nil n f W
  unfold fltV at C ⊢
  obtain ⟨fk, ft⟩ := f
  go_enter Try.func38, Try.ntmps38
  go_wp2
  go_region_law (first | (go_simp; go_at_call 42; refine (gtree_nil _).mono ?_; rintro e w' ⟨rfl, rfl⟩) | (go_simp; go_at_call 65; refine (C.out _).mono ?_; rintro e w2 ⟨rfl, h2⟩; have h2 := Lib.hid h2) | (go_simp; go_at_call 63; refine (turned_empty none _ _).mono ?_; rintro e w3 ⟨rfl, h3⟩; have h3 := Lib.hid h3))
  all_goals
    go_wp2
    go_returns
    refine ⟨rfl, ?_⟩
    refine Below.trans ?_ (h3.out.mono ?_)
    · refine Below.trans ?_ (h2.out.mono ?_)
      · go_grown
      · simp
    · have := h2.out.size; simp at this; omega

set_option maxRecDepth 100000 in
theorem gend_nil (n : Int) (f : Flt) (w : World) : Calls Try.prog 37 #[.pointer none, .int .i64 n, fltV f] w fun e w' => e = .returned (.tuple #[.slice none 0 0, .int .i64 2]) ∧ Below w.heap.size w w' := by
  have C : Hid (∀ W, _) := fun W => end_nil n f W
  unfold fltV at C ⊢
  obtain ⟨fk, ft⟩ := f
  go_enter Try.func37, Try.ntmps37
  go_wp2
  go_region_law (first | (go_simp; go_at_call 42; refine (gtree_nil _).mono ?_; rintro e w' ⟨rfl, rfl⟩) | (go_simp; go_at_call 64; refine (C.out _).mono ?_; rintro e w2 ⟨rfl, h2⟩; have h2 := Lib.hid h2) | (go_simp; go_at_call 63; refine (turned_empty none _ _).mono ?_; rintro e w3 ⟨rfl, h3⟩; have h3 := Lib.hid h3))
  all_goals
    go_wp2
    go_returns
    refine ⟨rfl, ?_⟩
    refine Below.trans ?_ (h3.out.mono ?_)
    · refine Below.trans ?_ (h2.out.mono ?_)
      · go_grown
      · simp
    · have := h2.out.size; simp at this; omega

set_option maxRecDepth 100000 in
theorem gfail_nil (n : Int) (f : Flt) (w : World) : Calls Try.prog 39 #[.pointer none, .int .i64 n, fltV f] w fun e w' => e = .returned (.tuple #[.slice none 0 0, .int .i64 2]) ∧ Below w.heap.size w w' := by
  have C : Hid (∀ W, _) := fun W => fail_nil n f W
  unfold fltV at C ⊢
  obtain ⟨fk, ft⟩ := f
  go_enter Try.func39, Try.ntmps39
  go_wp2
  go_region_law (first | (go_simp; go_at_call 42; refine (gtree_nil _).mono ?_; rintro e w' ⟨rfl, rfl⟩) | (go_simp; go_at_call 66; refine (C.out _).mono ?_; rintro e w2 ⟨rfl, h2⟩; have h2 := Lib.hid h2) | (go_simp; go_at_call 63; refine (turned_empty none _ _).mono ?_; rintro e w3 ⟨rfl, h3⟩; have h3 := Lib.hid h3))
  all_goals
    go_wp2
    go_returns
    refine ⟨rfl, ?_⟩
    refine Below.trans ?_ (h3.out.mono ?_)
    · refine Below.trans ?_ (h2.out.mono ?_)
      · go_grown
      · simp
    · have := h2.out.size; simp at this; omega

end Go.Proofs.Ytoonkidlbnndcaa
