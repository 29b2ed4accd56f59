/-
  (*Grove).Chain, Below, Task of a grove.
-/
import Derived.Test.YtoonkidlbnndcaaFinds
import Derived.Test.YtoonkidlbnndcaaFit
namespace Go.Proofs.Ytoonkidlbnndcaa
set_option linter.unusedVariables false
set_option linter.unusedSimpArgs false
open Go.RowKit

theorem LinkA.cells_lnk (n : Nat) : LinkA.cells (lnk n) = linkCells n := rfl
theorem links_opn (ns : List Nat) : (ns.map lnk).flatMap LinkA.cells = ns.flatMap linkCells := by
  rw [List.flatMap_map]
  rfl

section
variable {K : Kap} {A : GAt} {G : GroveA} {w w' : World}

set_option maxRecDepth 100000 in
theorem gchain (R : GRep K A G w) (F : FitT G.tree) (n : Int) : Calls Try.prog 14 #[.pointer (some ⟨A.g, 0, none⟩), .int .i64 n] w fun e w' => ∃ v, e = .returned (.tuple #[v, .int .i64 (if (G.tree.run? n).isSome then 0 else 6)]) ∧
    LinksIn w' v (G.tree.chain n) ∧ Fresh w v ∧ Below w.heap.size w w' := by
  have C1 := Lib.hid (gtree_some R)
  have C2 := Lib.hid (chain_any R.rep F n)
  clear R F
  generalize (if (G.tree.run? n).isSome then (0 : Int) else 6) = er at *
  go_enter Try.func14, Try.ntmps14
  go_wp2_with (first | (go_at_call 42; refine C1.out.mono ?_; rintro e w' ⟨rfl, rfl⟩) | (go_at_call 45; refine C2.out.mono ?_; rintro e w1 ⟨v, rfl, hv, hf, hb⟩; have hv := Lib.hid hv; have hb := Lib.hid hb; have hf := Lib.hid hf))
  go_returns
  exact ⟨_, rfl, LinksIn.of_owns hv.out, hf.out, hb.out⟩

set_option maxRecDepth 100000 in
theorem gbelow (R : GRep K A G w) (F : FitT G.tree) {n : Int} {j : Nat} (h : G.tree.scope? n = some j) : Calls Try.prog 13 #[.pointer (some ⟨A.g, 0, none⟩), .int .i64 n] w fun e w' => ∃ v, e = .returned (.tuple #[v, .int .i64 0]) ∧
    IntsIn w' v (belowN G.tree (G.tree.scopes.length + 1) j) ∧ Fresh w v ∧ Below w.heap.size w w' := by
  have C1 := Lib.hid (gtree_some R)
  have C2 := Lib.hid (belowT_ok R.rep F.down (fun i x hx => (F.opn i x hx).2) F.kids h (F.below j))
  clear R F h
  go_enter Try.func13, Try.ntmps13
  go_wp2_with (first | (go_at_call 42; refine C1.out.mono ?_; rintro e w' ⟨rfl, rfl⟩) | (go_at_call 44; refine C2.out.mono ?_; rintro e w1 ⟨v, rfl, hv, hf, hb⟩; have hv := Lib.hid hv; have hb := Lib.hid hb; have hf := Lib.hid hf))
  go_returns
  exact ⟨_, rfl, IntsIn.of_owns hv.out, hf.out, hb.out⟩

set_option maxRecDepth 100000 in
set_option maxHeartbeats 4000000 in
theorem gtask (R : GRep K A G w) (I : Inv G.tree) {i : Nat} {x : TaskA} (hx : G.tree.tasks[i]? = some x) : Calls Try.prog 12 #[.pointer (some ⟨A.g, 0, none⟩), .int .i64 ((i : Int) + 1)] w fun e w' => ∃ v, e = .returned (.tuple #[.agg #[.int .i64 (x.inn : Int), .bool x.ended, .bool x.leaving, .int .i64 (toldFlt x).kind, .string (toldFlt x).text, v], .int .i64 0]) ∧
    LinksIn w' v (x.opn.map lnk) ∧ Below w.heap.size w w' := by
  have hi : i ≤ 1000 := by
    have := (List.getElem?_eq_some_iff.1 hx).1
    have := I.nt
    omega
  have C1 : Hid (∀ W, Below w.heap.size w W → Calls _ _ _ W _) := fun W hW => gtree_some (R.below hW)
  have C2 : Hid (∀ W, Below w.heap.size w W → Calls _ _ _ W _) := fun W hW => task_ok (R.below hW).rep hx (I.innLe hx) (I.opnLe hx) (Nat.le_trans (I.opnLen hx) (by omega)) hi
  clear R I hi hx
  generalize toldFlt x = tf at *
  have hb0 : Hid (∀ o, Below w.heap.size w (w.alloc o)) := fun o => (Below.refl _ _).alloc (Nat.le_refl _) o
  go_enter Try.func12, Try.ntmps12
  go_wp2_with (first | (go_at_call 42; refine (C1.out _ (hb0.out _)).mono ?_; rintro e w' ⟨rfl, rfl⟩) | (go_at_call 43; refine (C2.out _ (hb0.out _)).mono ?_; rintro e w1 ⟨v, rfl, hv, hf, hb⟩; obtain ⟨ad, cap, rfl⟩ := owns_shape hv; have h0 : Blk w1 w.heap.size 32 #[.int .i64 0, .bool false, .bool false, .int .i64 0, .string ⟨#[]⟩, .slice none 0 0] := (Blk.new w 32 #[.int .i64 0, .bool false, .bool false, .int .i64 0, .string ⟨#[]⟩, .slice none 0 0]).below hb; have c0 : w1.cell? ⟨w.heap.size, 0, none⟩ = some (.int .i64 0) := h0.cell 0 rfl; have y0 := h0.frozen 0; have c1 : w1.cell? ⟨w.heap.size, 1, none⟩ = some (.bool false) := h0.cell 1 rfl; have y1 := h0.frozen 1; have c2 : w1.cell? ⟨w.heap.size, 2, none⟩ = some (.bool false) := h0.cell 2 rfl; have y2 := h0.frozen 2; have c3 : w1.cell? ⟨w.heap.size, 3, none⟩ = some (.int .i64 0) := h0.cell 3 rfl; have y3 := h0.frozen 3; have c4 : w1.cell? ⟨w.heap.size, 4, none⟩ = some (.string ⟨#[]⟩) := h0.cell 4 rfl; have y4 := h0.frozen 4; have c5 : w1.cell? ⟨w.heap.size, 5, none⟩ = some (.slice none 0 0) := h0.cell 5 rfl; have y5 := h0.frozen 5; have hf : Hid (∀ b, (Value.slice ad x.opn.length cap).ownBlock = some b → w.heap.size < b) := (fun b hb' => Nat.lt_of_lt_of_le (Nat.lt_succ_self _) (by simpa using hf b hb')); have hv := Lib.hid hv; have hb := Lib.hid (show Below w.heap.size w w1 from ((Below.refl w.heap.size w).alloc (Nat.le_refl _) _).trans (hb.mono (by simp))); have h0 := Lib.hid h0))
  have h0 := h0.out
  have F := ((((((h0.set_ 0 (.int .i64 (x.inn : Int))).set_ 1 (.bool x.ended)).set_ 2 (.bool x.leaving)).set_ 3 (.int .i64 tf.kind)).set_ 4 (.string tf.text)).set_ 5 (.slice ad x.opn.length cap))
  generalize hW : ((((((w1.setCell ⟨w.heap.size, 0, none⟩ (.int .i64 (x.inn : Int))).setCell ⟨w.heap.size, 1, none⟩ (.bool x.ended)).setCell ⟨w.heap.size, 2, none⟩ (.bool x.leaving)).setCell ⟨w.heap.size, 3, none⟩ (.int .i64 tf.kind)).setCell ⟨w.heap.size, 4, none⟩ (.string tf.text)).setCell ⟨w.heap.size, 5, none⟩ (.slice ad x.opn.length cap)) = W at F ⊢
  have r0 : W.cell? ⟨w.heap.size, 0, none⟩ = some (.int .i64 (x.inn : Int)) := F.cell 0 rfl
  have r1 : W.cell? ⟨w.heap.size, 1, none⟩ = some (.bool x.ended) := F.cell 1 rfl
  have r2 : W.cell? ⟨w.heap.size, 2, none⟩ = some (.bool x.leaving) := F.cell 2 rfl
  have r3 : W.cell? ⟨w.heap.size, 3, none⟩ = some (.int .i64 tf.kind) := F.cell 3 rfl
  have r4 : W.cell? ⟨w.heap.size, 4, none⟩ = some (.string tf.text) := F.cell 4 rfl
  have r5 : W.cell? ⟨w.heap.size, 5, none⟩ = some (.slice ad x.opn.length cap) := F.cell 5 rfl
  have hW := Lib.hid hW
  clear F c0 c1 c2 c3 c4 c5 y0 y1 y2 y3 y4 y5 h0
  refine bodyPost_ret (by simp [results, Try.results12, go_sem, r0, r1, r2, r3, r4, r5]; try rfl) rfl ?_
  refine ⟨.slice ad x.opn.length cap, rfl, LinksIn.of_owns ?_, ?_⟩
  · rw [links_opn, List.length_map, ← hW.out]
    refine owns_of hv.out (fun b hb' => ?_)
    have := hf.out b hb'
    repeat rw [Below.heap_setCell _ _ _ _ (show b ≠ _ by simp; omega)]
  · rw [← hW.out]
    repeat' (first | (with_reducible exact hb.out) | (with_reducible refine Below.setCell ?_ ?_ _) | exact Nat.le_refl _)

end
end Go.Proofs.Ytoonkidlbnndcaa
