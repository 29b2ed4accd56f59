/-
  A map[int]bool of the grove's own: a set of ints.
-/
import Derived.Maps.OwnSet
import Derived.Maps.Views
import Derived.Test.YtoonkidlbnndcaaNil3
namespace Go.Proofs.Ytoonkidlbnndcaa
set_option linter.unusedVariables false
set_option linter.unusedSimpArgs false
open Go.RowKit Go.Maps

abbrev DU := DataW Unit
def setD (S : List Int) : DU := S.foldr (fun k D => D.put (.int .i64 k) (.lit (.bool true))) (.map [])

theorem setD_map (S : List Int) : IsMap (setD S) := by
  induction S with
  | nil => exact ⟨[], rfl⟩
  | cons k S ih => exact ih.put _ _

theorem setD_at (S : List Int) (k : Int) : (setD S).atKey (.int .i64 k) (.lit (.bool false)) = .lit (.bool (decide (k ∈ S))) := by
  induction S with
  | nil => rfl
  | cons a S ih =>
    show ((setD S).put (.int .i64 a) (.lit (.bool true))).atKey _ _ = _
    by_cases h : k = a
    · subst h
      rw [atKey_put_same (setD_map S) (by trivial)]
      simp
    · rw [atKey_put_other (by intro e; injection e with _ e; exact h e), ih]
      simp [h]

/-- Block b is the set S. -/
def MapB (w : World) (b : Nat) (S : List Int) : Prop := w.ownsMap Try.prog 3 (plainElem (H := Unit) Try.prog 4) b S.length (setD S)

theorem Try.zeroBool (w : World) : (zeroValue 4).run Try.prog w = .ok (.bool false) w := by
  have : (Try.prog.info? 4).map (fun i => i.zero) = some (some (.bool false)) := by kernel_rfl
  obtain ⟨i, hi, hz⟩ := Option.map_eq_some_iff.1 this
  simp [zeroValue, typeInfo, hi, hz, go_sem]

theorem plainElem_bool_inv {P : Program} {e : TypeId} (he : P.underlying e = some .bool) {v : Value} {z : DU × List MemPlace} (h : plainElem P e v = some z) : ∃ x, v = .bool x ∧ z = (.lit (.bool x), []) := by
  unfold plainElem at h
  rw [he] at h
  cases v <;> simp at h
  exact ⟨_, rfl, h.symm⟩

theorem MapB.look {w : World} {b : Nat} {S : List Int} (h : MapB w b S) {k : Int} (hk : (Lit.int .i64 k).wf = true) : (Instr.lookup 84 (.map (some b)) (.int .i64 k) false).run Try.prog w = .ok (.bool (decide (k ∈ S))) w := by
  obtain ⟨v, ps, hrun, hv⟩ := World.ownsMap.lookup h (int_keyed Try.underlying3) Try.underlying84 (Try.zeroBool w) (plainElem_bool Try.underlying4 false) (keyOf_int_mk Try.underlying3 hk)
  obtain ⟨x, rfl, hx⟩ := plainElem_bool_inv Try.underlying4 hv
  rw [setD_at] at hx
  simp only [Prod.mk.injEq, DataW.lit.injEq, Lit.bool.injEq] at hx
  rw [hrun, hx.1]

theorem MapB.new (w : World) : MapB (w.alloc (.map #[] 0)) w.heap.size [] := World.ownsMap_made w _ _ _

theorem MapB.store {w : World} {b : Nat} {S : List Int} (h : MapB w b S) (hn : S.length < maxLen) {k : Int} (hk : (Lit.int .i64 k).wf = true) :
    ∃ w', (Instr.mapUpdate 84 (.map (some b)) (.int .i64 k) (.bool true)).run Try.prog w = .ok () w' ∧ MapB w' b (k :: S) ∧ w.grownBy w' (some b) :=
  World.ownsMap.update h (int_keyed Try.underlying3) Try.underlying84 hn (keyOf_int_mk Try.underlying3 hk) (plainElem_bool Try.underlying4 true)

theorem MapB.kept {w w' : World} {b : Nat} {S : List Int} (h : MapB w b S) (hb : w'.heap[b]? = w.heap[b]?) : MapB w' b S := by
  obtain ⟨es, clock, h1, h2⟩ := h
  exact ⟨es, clock, hb.trans h1, h2⟩

end Go.Proofs.Ytoonkidlbnndcaa
