/-
  A call of a law, as it lies in its block.
-/
import Derived.Test.YtoonkidlbnndcaaAwake
namespace Go.Proofs.Ytoonkidlbnndcaa
set_option linter.unusedVariables false
set_option linter.unusedSimpArgs false
open Go.RowKit

/-- The call lies in its block. -/
structure OpAt (w W : World) (kd n m : Int) (b : Bool) (f : Flt) : Prop where
  below : Below w.heap.size w W
  blk : Blk W w.heap.size 50 #[.int .i64 kd, .int .i64 n, .int .i64 m, .bool b, .int .i64 f.kind, .string f.text]

section
variable {w W W' : World} {kd n m : Int} {b : Bool} {f : Flt}
theorem OpAt.step (s : OpAt w W kd n m b f) (h : Below W.heap.size W W') : OpAt w W' kd n m b f := ⟨s.below.trans (h.mono s.below.size), s.blk.below h⟩
theorem OpAt.alloc (s : OpAt w W kd n m b f) (o : Obj) : OpAt w (W.alloc o) kd n m b f := s.step ((Below.refl _ _).alloc (Nat.le_refl _) o)
theorem OpAt.cells (s : OpAt w W kd n m b f) : W.cell? ⟨w.heap.size, 1, none⟩ = some (.int .i64 n) ∧ W.cell? ⟨w.heap.size, 2, none⟩ = some (.int .i64 m) ∧ W.cell? ⟨w.heap.size, 3, none⟩ = some (.bool b) ∧ W.cell? ⟨w.heap.size, 4, none⟩ = some (.int .i64 f.kind) ∧ W.cell? ⟨w.heap.size, 5, none⟩ = some (.string f.text) ∧ w.heap.size < W.heap.size :=
  ⟨s.blk.cell 1 rfl, s.blk.cell 2 rfl, s.blk.cell 3 rfl, s.blk.cell 4 rfl, s.blk.cell 5 rfl, s.blk.lt⟩
end

end Go.Proofs.Ytoonkidlbnndcaa
