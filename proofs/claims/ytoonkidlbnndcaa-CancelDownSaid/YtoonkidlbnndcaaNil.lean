/-
  The grove's methods at a nil grove. (nil1.py prints it.)
  The grove's own methods at a nil grove.
-/
import Derived.Test.YtoonkidlbnndcaaBelowT2
namespace Go.Proofs.Ytoonkidlbnndcaa
set_option linter.unusedVariables false
set_option linter.unusedSimpArgs false
open Go.RowKit

theorem gtree_nil (w : World) : Calls Try.prog 42 #[.pointer none] w fun e w' => e = .returned (.pointer none) ∧ w = w' := by
  go_enter Try.func42, Try.ntmps42
  go_wp2
  go_ret
  exact ⟨rfl, rfl⟩

set_option maxRecDepth 100000 in
theorem gshield_nil (n : Int) (w : World) : Calls Try.prog 24 #[.pointer none, .int .i64 n] w fun e w' => e = .returned (.int .i64 2) ∧ Below w.heap.size w w' := by
  skip
  go_enter Try.func24, Try.ntmps24
  go_wp2_with (first | (go_at_call 42; refine (gtree_nil _).mono ?_; rintro e w' ⟨rfl, rfl⟩) | (go_at_call 48; refine (shield_nil _ _).mono ?_; rintro e w' ⟨rfl, rfl⟩))
  go_returns
  exact ⟨rfl, by go_grown⟩

set_option maxRecDepth 100000 in
theorem gunveil_nil (n : Int) (w : World) : Calls Try.prog 25 #[.pointer none, .int .i64 n] w fun e w' => e = .returned (.int .i64 2) ∧ Below w.heap.size w w' := by
  skip
  go_enter Try.func25, Try.ntmps25
  go_wp2_with (first | (go_at_call 42; refine (gtree_nil _).mono ?_; rintro e w' ⟨rfl, rfl⟩) | (go_at_call 49; refine (unveil_nil _ _).mono ?_; rintro e w' ⟨rfl, rfl⟩))
  go_returns
  exact ⟨rfl, by go_grown⟩

set_option maxRecDepth 100000 in
theorem groot_nil  (w : World) : Calls Try.prog 40 #[.pointer none] w fun e w' => e = .returned (.tuple #[.int .i64 0, .int .i64 2]) ∧ Below w.heap.size w w' := by
  skip
  go_enter Try.func40, Try.ntmps40
  go_wp2_with (first | (go_at_call 42; refine (gtree_nil _).mono ?_; rintro e w' ⟨rfl, rfl⟩) | (go_at_call 67; refine (root_nil _).mono ?_; rintro e w' ⟨rfl, rfl⟩))
  go_returns
  exact ⟨rfl, by go_grown⟩

set_option maxRecDepth 100000 in
theorem gspawn_nil (n : Int) (w : World) : Calls Try.prog 36 #[.pointer none, .int .i64 n] w fun e w' => e = .returned (.tuple #[.int .i64 0, .int .i64 2]) ∧ Below w.heap.size w w' := by
  skip
  go_enter Try.func36, Try.ntmps36
  go_wp2_with (first | (go_at_call 42; refine (gtree_nil _).mono ?_; rintro e w' ⟨rfl, rfl⟩) | (go_at_call 62; refine (spawn_nil _ _).mono ?_; rintro e w' ⟨rfl, hb⟩; have hb := Lib.hid hb))
  go_returns
  exact ⟨rfl, by exact hb.out⟩

set_option maxRecDepth 100000 in
theorem gtask_nil (n : Int) (w : World) : Calls Try.prog 12 #[.pointer none, .int .i64 n] w fun e w' => e = .returned (.tuple #[zeroTask, .int .i64 2]) ∧ Below w.heap.size w w' := by
  have C := fun W => task_nil n W
  simp only [zeroTask] at C ⊢
  have C1 := Lib.hid C
  clear C
  go_enter Try.func12, Try.ntmps12
  go_wp2_with (first | (go_at_call 42; refine (gtree_nil _).mono ?_; rintro e w' ⟨rfl, rfl⟩) | (go_at_call 43; refine (C1.out _).mono ?_; rintro e w1 ⟨rfl, hb⟩; have h0 : Blk w1 w.heap.size 32 #[.int .i64 0, .bool false, .bool false, .int .i64 0, .string ⟨#[]⟩, .slice none 0 0] := (Blk.new w 32 #[.int .i64 0, .bool false, .bool false, .int .i64 0, .string ⟨#[]⟩, .slice none 0 0]).below hb; have c0 : w1.cell? ⟨w.heap.size, 0, none⟩ = some (.int .i64 0) := h0.cell 0 rfl; have y0 := h0.frozen 0; have c1 : w1.cell? ⟨w.heap.size, 1, none⟩ = some (.bool false) := h0.cell 1 rfl; have y1 := h0.frozen 1; have c2 : w1.cell? ⟨w.heap.size, 2, none⟩ = some (.bool false) := h0.cell 2 rfl; have y2 := h0.frozen 2; have c3 : w1.cell? ⟨w.heap.size, 3, none⟩ = some (.int .i64 0) := h0.cell 3 rfl; have y3 := h0.frozen 3; have c4 : w1.cell? ⟨w.heap.size, 4, none⟩ = some (.string ⟨#[]⟩) := h0.cell 4 rfl; have y4 := h0.frozen 4; have c5 : w1.cell? ⟨w.heap.size, 5, none⟩ = some (.slice none 0 0) := h0.cell 5 rfl; have y5 := h0.frozen 5; have hb := Lib.hid (show Below w.heap.size w w1 from ((Below.refl w.heap.size w).alloc (Nat.le_refl _) _).trans (hb.mono (by simp))); have h0 := Lib.hid h0))
  have h0 := h0.out
  have F := ((((((h0.set_ 0 (.int .i64 0)).set_ 1 (.bool false)).set_ 2 (.bool false)).set_ 3 (.int .i64 0)).set_ 4 (.string ⟨#[]⟩)).set_ 5 (.slice none 0 0))
  generalize hW : ((((((w1.setCell ⟨w.heap.size, 0, none⟩ (.int .i64 0)).setCell ⟨w.heap.size, 1, none⟩ (.bool false)).setCell ⟨w.heap.size, 2, none⟩ (.bool false)).setCell ⟨w.heap.size, 3, none⟩ (.int .i64 0)).setCell ⟨w.heap.size, 4, none⟩ (.string ⟨#[]⟩)).setCell ⟨w.heap.size, 5, none⟩ (.slice none 0 0)) = W at F ⊢
  have r0 : W.cell? ⟨w.heap.size, 0, none⟩ = some (.int .i64 0) := F.cell 0 rfl
  have r1 : W.cell? ⟨w.heap.size, 1, none⟩ = some (.bool false) := F.cell 1 rfl
  have r2 : W.cell? ⟨w.heap.size, 2, none⟩ = some (.bool false) := F.cell 2 rfl
  have r3 : W.cell? ⟨w.heap.size, 3, none⟩ = some (.int .i64 0) := F.cell 3 rfl
  have r4 : W.cell? ⟨w.heap.size, 4, none⟩ = some (.string ⟨#[]⟩) := F.cell 4 rfl
  have r5 : W.cell? ⟨w.heap.size, 5, none⟩ = some (.slice none 0 0) := F.cell 5 rfl
  have hW := Lib.hid hW
  clear F c0 c1 c2 c3 c4 c5 y0 y1 y2 y3 y4 y5 h0
  refine bodyPost_ret (by simp [results, Try.results12, go_sem, r0, r1, r2, r3, r4, r5]; try rfl) rfl ?_
  refine ⟨rfl, ?_⟩
  rw [← hW.out]
  repeat' (first | (with_reducible exact hb.out) | (with_reducible refine Below.setCell ?_ ?_ _) | exact Nat.le_refl _)

set_option maxRecDepth 100000 in
theorem gscope_nil (n : Int) (w : World) : Calls Try.prog 41 #[.pointer none, .int .i64 n] w fun e w' => e = .returned (.tuple #[zeroScope, .int .i64 2]) ∧ Below w.heap.size w w' := by
  have C := fun W => scopeT_nil n W
  simp only [zeroScope] at C ⊢
  have C1 := Lib.hid C
  clear C
  go_enter Try.func41, Try.ntmps41
  go_wp2_with (first | (go_at_call 42; refine (gtree_nil _).mono ?_; rintro e w' ⟨rfl, rfl⟩) | (go_at_call 68; refine (C1.out _).mono ?_; rintro e w1 ⟨rfl, hb⟩; have h0 : Blk w1 w.heap.size 76 #[.int .i64 0, .bool false, .bool false, .slice none 0 0, .int .i64 0, .string ⟨#[]⟩] := (Blk.new w 76 #[.int .i64 0, .bool false, .bool false, .slice none 0 0, .int .i64 0, .string ⟨#[]⟩]).below hb; have c0 : w1.cell? ⟨w.heap.size, 0, none⟩ = some (.int .i64 0) := h0.cell 0 rfl; have y0 := h0.frozen 0; have c1 : w1.cell? ⟨w.heap.size, 1, none⟩ = some (.bool false) := h0.cell 1 rfl; have y1 := h0.frozen 1; have c2 : w1.cell? ⟨w.heap.size, 2, none⟩ = some (.bool false) := h0.cell 2 rfl; have y2 := h0.frozen 2; have c3 : w1.cell? ⟨w.heap.size, 3, none⟩ = some (.slice none 0 0) := h0.cell 3 rfl; have y3 := h0.frozen 3; have c4 : w1.cell? ⟨w.heap.size, 4, none⟩ = some (.int .i64 0) := h0.cell 4 rfl; have y4 := h0.frozen 4; have c5 : w1.cell? ⟨w.heap.size, 5, none⟩ = some (.string ⟨#[]⟩) := h0.cell 5 rfl; have y5 := h0.frozen 5; have hb := Lib.hid (show Below w.heap.size w w1 from ((Below.refl w.heap.size w).alloc (Nat.le_refl _) _).trans (hb.mono (by simp))); have h0 := Lib.hid h0))
  have h0 := h0.out
  have F := ((((((h0.set_ 0 (.int .i64 0)).set_ 1 (.bool false)).set_ 2 (.bool false)).set_ 3 (.slice none 0 0)).set_ 4 (.int .i64 0)).set_ 5 (.string ⟨#[]⟩))
  generalize hW : ((((((w1.setCell ⟨w.heap.size, 0, none⟩ (.int .i64 0)).setCell ⟨w.heap.size, 1, none⟩ (.bool false)).setCell ⟨w.heap.size, 2, none⟩ (.bool false)).setCell ⟨w.heap.size, 3, none⟩ (.slice none 0 0)).setCell ⟨w.heap.size, 4, none⟩ (.int .i64 0)).setCell ⟨w.heap.size, 5, none⟩ (.string ⟨#[]⟩)) = W at F ⊢
  have r0 : W.cell? ⟨w.heap.size, 0, none⟩ = some (.int .i64 0) := F.cell 0 rfl
  have r1 : W.cell? ⟨w.heap.size, 1, none⟩ = some (.bool false) := F.cell 1 rfl
  have r2 : W.cell? ⟨w.heap.size, 2, none⟩ = some (.bool false) := F.cell 2 rfl
  have r3 : W.cell? ⟨w.heap.size, 3, none⟩ = some (.slice none 0 0) := F.cell 3 rfl
  have r4 : W.cell? ⟨w.heap.size, 4, none⟩ = some (.int .i64 0) := F.cell 4 rfl
  have r5 : W.cell? ⟨w.heap.size, 5, none⟩ = some (.string ⟨#[]⟩) := F.cell 5 rfl
  have hW := Lib.hid hW
  clear F c0 c1 c2 c3 c4 c5 y0 y1 y2 y3 y4 y5 h0
  refine bodyPost_ret (by simp [results, Try.results41, go_sem, r0, r1, r2, r3, r4, r5]; try rfl) rfl ?_
  refine ⟨rfl, ?_⟩
  rw [← hW.out]
  repeat' (first | (with_reducible exact hb.out) | (with_reducible refine Below.setCell ?_ ?_ _) | exact Nat.le_refl _)

set_option maxRecDepth 100000 in
theorem gchain_nil (n : Int) (w : World) : Calls Try.prog 14 #[.pointer none, .int .i64 n] w fun e w' => e = .returned (.tuple #[.slice none 0 0, .int .i64 2]) ∧ Below w.heap.size w w' := by
  skip
  go_enter Try.func14, Try.ntmps14
  go_wp2_with (first | (go_at_call 42; refine (gtree_nil _).mono ?_; rintro e w' ⟨rfl, rfl⟩) | (go_at_call 45; refine (chain_nil _ _).mono ?_; rintro e w' ⟨rfl, rfl⟩))
  go_returns
  exact ⟨rfl, by go_grown⟩

set_option maxRecDepth 100000 in
theorem gbelow_nil (n : Int) (w : World) : Calls Try.prog 13 #[.pointer none, .int .i64 n] w fun e w' => e = .returned (.tuple #[.slice none 0 0, .int .i64 2]) ∧ Below w.heap.size w w' := by
  skip
  go_enter Try.func13, Try.ntmps13
  go_wp2_with (first | (go_at_call 42; refine (gtree_nil _).mono ?_; rintro e w' ⟨rfl, rfl⟩) | (go_at_call 44; refine (belowT_nil _ _).mono ?_; rintro e w' ⟨rfl, rfl⟩))
  go_returns
  exact ⟨rfl, by go_grown⟩

end Go.Proofs.Ytoonkidlbnndcaa

namespace Go.Proofs.Ytoonkidlbnndcaa
set_option linter.unusedVariables false
set_option linter.unusedSimpArgs false
open Go.RowKit

set_option maxRecDepth 100000 in
theorem gpending_nil (n : Int) (w : World) : Calls Try.prog 18 #[.pointer none, .int .i64 n] w fun e w' => e = .returned (.bool false) ∧ Below w.heap.size w w' := by
  go_enter Try.func18, Try.ntmps18
  go_wp2_with (first | (go_at_call 42; refine (gtree_nil _).mono ?_; rintro e w' ⟨rfl, rfl⟩) | (go_at_call 45; refine (chain_nil _ _).mono ?_; rintro e w' ⟨rfl, rfl⟩))
  refine wp_loop_rounds 1 ?_
  rw [rounds_succ]
  go_wp2
  go_returns
  exact ⟨rfl, by go_grown⟩

set_option maxRecDepth 100000 in
theorem gdeadline_nil (n : Int) (w : World) : Calls Try.prog 29 #[.pointer none, .int .i64 n] w fun e w' => e = .returned (.tuple #[.int .i64 0, .bool false]) ∧ Below w.heap.size w w' := by
  go_enter Try.func29, Try.ntmps29
  go_wp2_with (first | (go_at_call 42; refine (gtree_nil _).mono ?_; rintro e w' ⟨rfl, rfl⟩) | (go_at_call 45; refine (chain_nil _ _).mono ?_; rintro e w' ⟨rfl, rfl⟩))
  refine wp_loop_rounds 1 ?_
  rw [rounds_succ]
  go_wp2
  go_returns
  exact ⟨rfl, by go_grown⟩

set_option maxRecDepth 100000 in
theorem gnext_nil (w : World) : Calls Try.prog 26 #[.pointer none] w fun e w' => e = .returned (.tuple #[.int .i64 0, .bool false]) ∧ Below w.heap.size w w' := by
  go_enter Try.func26, Try.ntmps26
  go_wp2
  go_returns
  exact ⟨rfl, by go_grown⟩

set_option maxRecDepth 100000 in
theorem gcopy_nil (w : World) : Calls Try.prog 31 #[.pointer none] w fun e w' => e = .returned (.pointer none) ∧ Below w.heap.size w w' := by
  go_enter Try.func31, Try.ntmps31
  go_wp2
  go_returns
  exact ⟨rfl, by go_grown⟩

set_option maxRecDepth 100000 in
theorem gexpire_nil (n : Int) (w : World) : Calls Try.prog 27 #[.pointer none, .int .i64 n] w fun e w' => e = .returned (.tuple #[.slice none 0 0, .int .i64 2]) ∧ Below w.heap.size w w' := by
  go_enter Try.func27, Try.ntmps27
  go_wp2
  go_returns
  exact ⟨rfl, by go_grown⟩

set_option maxRecDepth 100000 in
theorem gstrike_nil (n : Int) (w : World) : Calls Try.prog 30 #[.pointer none, .int .i64 n] w fun e w' => e = .returned (.tuple #[.slice none 0 0, .int .i64 2]) ∧ Below w.heap.size w w' := by
  go_enter Try.func30, Try.ntmps30
  go_wp2_with (first | (go_at_call 42; refine (gtree_nil _).mono ?_; rintro e w' ⟨rfl, rfl⟩) | (go_at_call 45; refine (chain_nil _ _).mono ?_; rintro e w' ⟨rfl, rfl⟩))
  go_returns
  exact ⟨rfl, by go_grown⟩

set_option maxRecDepth 100000 in
theorem gopen_nil (n : Int) (b : Bool) (m : Int) (w : World) : Calls Try.prog 35 #[.pointer none, .int .i64 n, .bool b, .int .i64 m] w fun e w' => e = .returned (.tuple #[.int .i64 0, .int .i64 2]) ∧ Below w.heap.size w w' := by
  go_enter Try.func35, Try.ntmps35
  go_wp2_with (first | (go_at_call 42; refine (gtree_nil _).mono ?_; rintro e w' ⟨rfl, rfl⟩) | (go_at_call 60; refine (open_nil _ _ _).mono ?_; rintro e w' ⟨rfl, rfl⟩))
  go_returns
  exact ⟨rfl, by go_grown⟩

end Go.Proofs.Ytoonkidlbnndcaa
