/-
  The tree's small functions: what is asked of a task or a scope by its number.
  The tree's small functions, continued: acts, scope, inner, link.
  The tree's small functions, continued: the outermost scope among links, the place of a scope among links.
  The tree's small functions, continued: the outermost scope, the place of a scope among links, which faults may be.
  Which faults may be; a scope gets a fault.
-/
import Derived.Test.YtoonkidlbnndcaaMem
import Derived.Handy
import Derived.Lib.Hide
import Derived.Deep.QuietTactic
import Derived.BigQuiet
import Derived.LaidEqlPtr
namespace Go.Proofs.Ytoonkidlbnndcaa
set_option linter.unusedVariables false
set_option linter.unusedSimpArgs false
open Go.RowKit

/-- The index of a task that runs. -/
def TreeA.run? (T : TreeA) (n : Int) : Option Nat :=
  if 1 ≤ n then match T.tasks[n.toNat - 1]? with
    | some x => if x.ended then none else some (n.toNat - 1)
    | none => none
  else none

/-- The index of a scope. -/
def TreeA.scope? (T : TreeA) (n : Int) : Option Nat :=
  if 1 ≤ n ∧ n ≤ T.scopes.length then some (n.toNat - 1) else none

theorem TreeA.run?_some {T : TreeA} {n : Int} {i : Nat} (h : T.run? n = some i) : n = (i : Int) + 1 ∧ ∃ x, T.tasks[i]? = some x ∧ x.ended = false := by
  unfold TreeA.run? at h
  split at h
  · split at h
    · rename_i hn x hx
      split at h
      · cases h
      · injection h with h
        subst h
        exact ⟨by omega, x, hx, by simp_all⟩
    · cases h
  · cases h

theorem TreeA.scope?_some {T : TreeA} {n : Int} {i : Nat} (h : T.scope? n = some i) : n = (i : Int) + 1 ∧ ∃ x, T.scopes[i]? = some x := by
  unfold TreeA.scope? at h
  split at h
  · injection h with h
    subst h
    exact ⟨by omega, _, List.getElem?_eq_getElem (by omega)⟩
  · cases h

section
variable {κ : Kap} {L : Lay} {T : TreeA} {w : World}

theorem Rep.treecells (R : Rep κ L T w) : w.cell? ⟨L.t, 0, none⟩ = some L.ts ∧ w.cell? ⟨L.t, 1, none⟩ = some L.ss :=
  ⟨R.tree.cell 0 rfl, R.tree.cell 1 rfl⟩
theorem Rep.tcells (R : Rep κ L T w) {i : Nat} {x : TaskA} (hx : T.tasks[i]? = some x) :
    w.cell? ⟨L.tb i, 0, none⟩ = some (.int .i64 ((i : Int) + 1)) ∧ w.cell? ⟨L.tb i, 1, none⟩ = some (L.sp x.inn) ∧ w.cell? ⟨L.tb i, 2, none⟩ = some (L.ov i) ∧
    w.cell? ⟨L.tb i, 3, none⟩ = some (.bool x.leaving) ∧ w.cell? ⟨L.tb i, 4, none⟩ = some (.bool x.ended) ∧ w.cell? ⟨L.tb i, 5, none⟩ = some (.int .i64 x.flt.kind) ∧ w.cell? ⟨L.tb i, 6, none⟩ = some (.string x.flt.text) :=
  let h := R.task i x hx
  ⟨h.cell 0 rfl, h.cell 1 rfl, h.cell 2 rfl, h.cell 3 rfl, h.cell 4 rfl, h.cell 5 rfl, h.cell 6 rfl⟩
theorem Rep.scells (R : Rep κ L T w) {i : Nat} {x : ScopeA} (hx : T.scopes[i]? = some x) :
    w.cell? ⟨L.sb i, 0, none⟩ = some (.int .i64 ((i : Int) + 1)) ∧ w.cell? ⟨L.sb i, 1, none⟩ = some (L.tp x.owner) ∧ w.cell? ⟨L.sb i, 2, none⟩ = some (.bool x.sup) ∧ w.cell? ⟨L.sb i, 3, none⟩ = some (.bool x.over) ∧
    w.cell? ⟨L.sb i, 4, none⟩ = some (L.kv i) ∧ w.cell? ⟨L.sb i, 5, none⟩ = some (.int .i64 x.live) ∧ w.cell? ⟨L.sb i, 6, none⟩ = some (.int .i64 x.flt.kind) ∧ w.cell? ⟨L.sb i, 7, none⟩ = some (.string x.flt.text) :=
  let h := R.scope i x hx
  ⟨h.cell 0 rfl, h.cell 1 rfl, h.cell 2 rfl, h.cell 3 rfl, h.cell 4 rfl, h.cell 5 rfl, h.cell 6 rfl, h.cell 7 rfl⟩

/-- A slice value that owns a row is written out: nil, or a block and its cells. -/
theorem owns_form {w : World} {e n : Nat} {v : Value} {xs : List Value} (h : w.ownsRow 0 e 1 v n xs) :
    (v = .slice none 0 0 ∧ n = 0 ∧ xs = []) ∨ ∃ g cap, v = .slice (some ⟨g, 0, none⟩) n cap ∧ n ≤ cap ∧ cap ≤ maxLen ∧ g < w.heap.size ∧ (∀ j, j < n → w.cell? ⟨g, j, none⟩ = xs[j]?) ∧ (∀ j, w.frozen? ⟨g, j, none⟩ = false) := by
  have h0 := h
  rcases h.2 with ⟨rfl, rfl⟩ | ⟨g, cap, cur, rfl, _, hgg, hn, hm, _, _⟩
  · exact .inl ⟨rfl, rfl, List.eq_nil_of_length_eq_zero (by simpa using h.1)⟩
  · exact .inr ⟨g, cap, rfl, hn, hm, (Array.getElem?_eq_some_iff.1 hgg).1, fun j hj => h0.cellAt j (by omega), fun j => h0.frozenAt j⟩

theorem owns_len {w : World} {e n : Nat} {v : Value} {xs : List Value} (h : w.ownsRow 0 e 1 v n xs) : ∃ ad cap, v = .slice ad n cap ∧ n ≤ cap ∧ n ≤ maxLen := by
  rcases owns_form h with ⟨rfl, rfl, rfl⟩ | ⟨g, cap, rfl, h1, h2, _⟩
  · exact ⟨_, _, rfl, Nat.le_refl _, by unfold maxLen; omega⟩
  · exact ⟨_, _, rfl, h1, by omega⟩

theorem runs_nil (n : Int) (w : World) : Calls Try.prog 74 #[.pointer none, .int .i64 n] w fun e w' => e = .returned (.tuple #[.pointer none, .int .i64 2]) ∧ w = w' := by
  go_enter Try.func74, Try.ntmps74
  go_wp2
  go_ret2
  exact ⟨rfl, rfl⟩

theorem runs_none (R : Rep κ L T w) {n : Int} (h : T.run? n = none) :
    Calls Try.prog 74 #[.pointer (some ⟨L.t, 0, none⟩), .int .i64 n] w fun e w' => e = .returned (.tuple #[.pointer none, .int .i64 6]) ∧ w = w' := by
  obtain ⟨c0, c1⟩ := R.treecells
  obtain ⟨ad, cap, hv, hcap, hm⟩ := owns_len R.ts
  rw [hv] at c0
  unfold maxLen at hm
  by_cases h1 : n < 1
  · clear R
    go_enter Try.func74, Try.ntmps74
    go_wp2
    go_ret2
    exact ⟨rfl, rfl⟩
  by_cases h2 : (T.tasks.length : Int) < n
  · clear R
    go_enter Try.func74, Try.ntmps74
    go_wp2
    go_ret2
    exact ⟨rfl, rfl⟩
  have hx : T.tasks[n.toNat - 1]? = some (T.tasks[n.toNat - 1]'(by omega)) := List.getElem?_eq_getElem (by omega)
  have he : (T.tasks[n.toNat - 1]'(by omega)).ended = true := by
    unfold TreeA.run? at h
    rw [if_pos (by omega), hx] at h
    simpa using h
  obtain ⟨d0, d1, d2, d3, d4, d5, d6⟩ := R.tcells hx
  rw [he] at d4
  rcases owns_form R.ts with ⟨_, h0, _⟩ | ⟨g, cap', hv', _, _, _, hc, _⟩
  · omega
  obtain ⟨rfl, rfl⟩ : ad = some ⟨g, 0, none⟩ ∧ cap = cap' := by rw [hv] at hv'; simpa using hv'
  have hc1 := hc (n.toNat - 1) (by omega)
  rw [List.getElem?_map, List.getElem?_range (by omega)] at hc1
  simp only [Option.map_some] at hc1
  clear R hc hx he d0 d1 d2 d3 d5 d6 h hv hv'
  go_enter Try.func74, Try.ntmps74
  go_wp2
  go_ret2
  exact ⟨rfl, rfl⟩

theorem runs_some (R : Rep κ L T w) {n : Int} {i : Nat} (h : T.run? n = some i) :
    Calls Try.prog 74 #[.pointer (some ⟨L.t, 0, none⟩), .int .i64 n] w fun e w' => e = .returned (.tuple #[.pointer (some ⟨L.tb i, 0, none⟩), .int .i64 0]) ∧ w = w' := by
  obtain ⟨hn, x, hx, he⟩ := TreeA.run?_some h
  obtain ⟨c0, c1⟩ := R.treecells
  have hl : i < T.tasks.length := (List.getElem?_eq_some_iff.1 hx).1
  obtain ⟨d0, d1, d2, d3, d4, d5, d6⟩ := R.tcells hx
  rw [he] at d4
  rcases owns_form R.ts with ⟨_, h0, _⟩ | ⟨g, cap, hv, hcap, hm, _, hc, _⟩
  · omega
  rw [hv] at c0
  unfold maxLen at hm
  have hc1 := hc i (by omega)
  rw [List.getElem?_map, List.getElem?_range (by omega)] at hc1
  simp only [Option.map_some] at hc1
  obtain rfl : i = n.toNat - 1 := by omega
  have hn1 : 1 ≤ n := by omega
  have hn2 : n ≤ (T.tasks.length : Int) := by omega
  clear hn
  clear R hc hx he d0 d1 d2 d3 d5 d6 h hv
  go_enter Try.func74, Try.ntmps74
  go_wp2
  go_ret2
  exact ⟨rfl, rfl⟩

end
end Go.Proofs.Ytoonkidlbnndcaa

namespace Go.Proofs.Ytoonkidlbnndcaa
set_option linter.unusedVariables false
set_option linter.unusedSimpArgs false
open Go.RowKit

section
variable {κ : Kap} {L : Lay} {T : TreeA} {w : World}

theorem acts_nil (n : Int) (w : World) : Calls Try.prog 77 #[.pointer none, .int .i64 n] w fun e w' => e = .returned (.tuple #[.pointer none, .int .i64 2]) ∧ w = w' := by
  go_enter Try.func77, Try.ntmps77
  go_wp2_with (go_at_call 74; refine (runs_nil _ _).mono ?_; rintro e w' ⟨rfl, rfl⟩)
  go_ret2
  exact ⟨rfl, rfl⟩

theorem acts_none (R : Rep κ L T w) {n : Int} (h : T.run? n = none) :
    Calls Try.prog 77 #[.pointer (some ⟨L.t, 0, none⟩), .int .i64 n] w fun e w' => e = .returned (.tuple #[.pointer none, .int .i64 6]) ∧ w = w' := by
  have C := Lib.hid (runs_none R h)
  clear R h
  go_enter Try.func77, Try.ntmps77
  go_wp2_with (go_at_call 74; refine C.out.mono ?_; rintro e w' ⟨rfl, rfl⟩)
  go_ret2
  exact ⟨rfl, rfl⟩

theorem acts_leaving (R : Rep κ L T w) {n : Int} {i : Nat} {x : TaskA} (h : T.run? n = some i) (hx : T.tasks[i]? = some x) (hl : x.leaving = true) :
    Calls Try.prog 77 #[.pointer (some ⟨L.t, 0, none⟩), .int .i64 n] w fun e w' => e = .returned (.tuple #[.pointer none, .int .i64 22]) ∧ w = w' := by
  have C := Lib.hid (runs_some R h)
  obtain ⟨_, _, _, d3, _⟩ := R.tcells hx
  rw [hl] at d3
  clear R h hx hl
  go_enter Try.func77, Try.ntmps77
  go_wp2_with (go_at_call 74; refine C.out.mono ?_; rintro e w' ⟨rfl, rfl⟩)
  go_ret2
  exact ⟨rfl, rfl⟩

theorem acts_some (R : Rep κ L T w) {n : Int} {i : Nat} {x : TaskA} (h : T.run? n = some i) (hx : T.tasks[i]? = some x) (hl : x.leaving = false) :
    Calls Try.prog 77 #[.pointer (some ⟨L.t, 0, none⟩), .int .i64 n] w fun e w' => e = .returned (.tuple #[.pointer (some ⟨L.tb i, 0, none⟩), .int .i64 0]) ∧ w = w' := by
  have C := Lib.hid (runs_some R h)
  obtain ⟨_, _, _, d3, _⟩ := R.tcells hx
  rw [hl] at d3
  clear R h hx hl
  go_enter Try.func77, Try.ntmps77
  go_wp2_with (go_at_call 74; refine C.out.mono ?_; rintro e w' ⟨rfl, rfl⟩)
  go_ret2
  exact ⟨rfl, rfl⟩

theorem scope_nil (n : Int) (w : World) : Calls Try.prog 70 #[.pointer none, .int .i64 n] w fun e w' => e = .returned (.tuple #[.pointer none, .int .i64 2]) ∧ w = w' := by
  go_enter Try.func70, Try.ntmps70
  go_wp2
  go_ret2
  exact ⟨rfl, rfl⟩

theorem scope_none (R : Rep κ L T w) {n : Int} (h : T.scope? n = none) :
    Calls Try.prog 70 #[.pointer (some ⟨L.t, 0, none⟩), .int .i64 n] w fun e w' => e = .returned (.tuple #[.pointer none, .int .i64 6]) ∧ w = w' := by
  obtain ⟨c0, c1⟩ := R.treecells
  obtain ⟨ad, cap, hv, hcap, hm⟩ := owns_len R.ss
  rw [hv] at c1
  unfold maxLen at hm
  by_cases h1 : n < 1
  · clear R
    go_enter Try.func70, Try.ntmps70
    go_wp2
    go_ret2
    exact ⟨rfl, rfl⟩
  have h2 : (T.scopes.length : Int) < n := by
    unfold TreeA.scope? at h
    split at h
    · cases h
    · omega
  clear R h hv
  go_enter Try.func70, Try.ntmps70
  go_wp2
  go_ret2
  exact ⟨rfl, rfl⟩

theorem scope_some (R : Rep κ L T w) {n : Int} {i : Nat} (h : T.scope? n = some i) :
    Calls Try.prog 70 #[.pointer (some ⟨L.t, 0, none⟩), .int .i64 n] w fun e w' => e = .returned (.tuple #[.pointer (some ⟨L.sb i, 0, none⟩), .int .i64 0]) ∧ w = w' := by
  obtain ⟨hn, x, hx⟩ := TreeA.scope?_some h
  obtain ⟨c0, c1⟩ := R.treecells
  have hl : i < T.scopes.length := (List.getElem?_eq_some_iff.1 hx).1
  rcases owns_form R.ss with ⟨_, h0, _⟩ | ⟨g, cap, hv, hcap, hm, _, hc, _⟩
  · omega
  rw [hv] at c1
  unfold maxLen at hm
  have hc1 := hc i (by omega)
  rw [List.getElem?_map, List.getElem?_range (by omega)] at hc1
  simp only [Option.map_some] at hc1
  obtain rfl : i = n.toNat - 1 := by omega
  have hn1 : 1 ≤ n := by omega
  have hn2 : n ≤ (T.scopes.length : Int) := by omega
  clear hn
  clear R hc hx h hv
  go_enter Try.func70, Try.ntmps70
  go_wp2
  go_ret2
  exact ⟨rfl, rfl⟩

theorem inner_none (R : Rep κ L T w) {i : Nat} {x : TaskA} (hx : T.tasks[i]? = some x) (ho : x.opn = []) :
    Calls Try.prog 78 #[.pointer (some ⟨L.tb i, 0, none⟩)] w fun e w' => e = .returned (.tuple #[.pointer none, .bool false]) ∧ w = w' := by
  obtain ⟨_, _, d2, _⟩ := R.tcells hx
  have hown := R.opn i x hx
  obtain ⟨ad, cap, hv, _, _⟩ := owns_len hown
  rw [ho] at hv
  rw [hv] at d2
  simp only [List.length_nil] at d2
  clear R hx ho hown hv
  go_enter Try.func78, Try.ntmps78
  go_wp2
  go_ret2
  exact ⟨rfl, rfl⟩

theorem inner_raw (w : World) (b g k cap : Nat) (v : Value) (hm : cap ≤ 9223372036854775807) (hk : k + 1 ≤ cap)
    (d2 : w.cell? ⟨b, 2, none⟩ = some (.slice (some ⟨g, 0, none⟩) (k + 1) cap)) (hc : w.cell? ⟨g, k, none⟩ = some v) :
    Calls Try.prog 78 #[.pointer (some ⟨b, 0, none⟩)] w fun e w' => e = .returned (.tuple #[v, .bool true]) ∧ ∃ k, w' = w.drewN k := by
  have e1 : IntKind.i64.wrap (((k + 1 : Nat) : Int) - 1) = (k : Int) := by rw [IntWalk.i64_in _ (by omega)]; omega
  have e2 : IntKind.i64.wrap ((k : Int) + 1 - 1) = (k : Int) := by rw [IntWalk.i64_in _ (by omega)]; omega
  go_enter Try.func78, Try.ntmps78
  go_wp2
  go_quiet (fail)
  go_wp2
  go_ret2
  exact ⟨rfl, _, rfl⟩

theorem inner_some (R : Rep κ L T w) {i : Nat} {x : TaskA} {l : List Nat} {s : Nat} (hx : T.tasks[i]? = some x) (ho : x.opn = l ++ [s]) :
    Calls Try.prog 78 #[.pointer (some ⟨L.tb i, 0, none⟩)] w fun e w' => e = .returned (.tuple #[L.sp s, .bool true]) ∧ ∃ k, w' = w.drewN k := by
  obtain ⟨_, _, d2, _⟩ := R.tcells hx
  have hown := R.opn i x hx
  rcases owns_form hown with ⟨_, h0, _⟩ | ⟨g, cap, hv, hcap, hm, _, hc, _⟩
  · rw [ho] at h0; simp at h0
  have hc1 := hc l.length (by rw [ho]; simp)
  rw [ho] at hc1 hv hcap
  simp only [List.length_append, List.length_singleton, List.map_append, List.map_cons, List.map_nil] at hc1 hv hcap
  rw [List.getElem?_append_right (by simp)] at hc1
  simp at hc1
  rw [hv] at d2
  unfold maxLen at hm
  exact inner_raw w _ g l.length cap _ (by omega) hcap d2 hc1

theorem link_nil (w : World) : Calls Try.prog 69 #[.pointer none] w fun e w' => e = .returned (.agg #[.int .i64 3, .int .i64 0]) ∧ Below w.heap.size w w' := by
  go_enter Try.func69, Try.ntmps69
  go_wp2
  go_returns
  exact ⟨rfl, by go_grown⟩

theorem link_some (R : Rep κ L T w) {i : Nat} {s : ScopeA} (hs : T.scopes[i]? = some s) :
    Calls Try.prog 69 #[.pointer (some ⟨L.sb i, 0, none⟩)] w fun e w' => e = .returned (.agg #[.int .i64 2, .int .i64 ((i : Int) + 1)]) ∧ Below w.heap.size w w' := by
  obtain ⟨d0, _⟩ := R.scells hs
  have hlt := (R.scope i s hs).lt
  clear R hs
  go_enter Try.func69, Try.ntmps69
  go_wp2
  go_returns
  exact ⟨rfl, by go_grown⟩

end
end Go.Proofs.Ytoonkidlbnndcaa

namespace Go.Proofs.Ytoonkidlbnndcaa
set_option linter.unusedVariables false
set_option linter.unusedSimpArgs false
open Go.RowKit

/-- A slice value that reads as the values xs, each of one cell. -/
def Row (w : World) (v : Value) (xs : List Value) : Prop :=
  (∃ ad c, v = .slice ad 0 c ∧ c ≤ maxLen ∧ xs = []) ∨
  ∃ b o cap, v = .slice (some ⟨b, o, none⟩) xs.length cap ∧ xs.length ≤ cap ∧ cap ≤ maxLen ∧ b < w.heap.size ∧ ∀ j, j < xs.length → w.cell? ⟨b, o + j, none⟩ = xs[j]?

section
variable {κ : Kap} {L : Lay} {T : TreeA} {w w' : World}

theorem Row.of_owns {e n : Nat} {v : Value} {xs : List Value} (h : w.ownsRow 0 e 1 v n xs) : Row w v xs := by
  have hl : xs.length = n := by have := h.1; omega
  rcases owns_form h with ⟨rfl, rfl, rfl⟩ | ⟨g, cap, rfl, h1, h2, h3, h4, _⟩
  · exact .inl ⟨none, 0, rfl, by unfold maxLen; omega, rfl⟩
  · subst hl
    exact .inr ⟨g, 0, cap, rfl, h1, h2, h3, fun j hj => by rw [Nat.zero_add]; exact h4 j hj⟩

theorem Row.below {v : Value} {xs : List Value} (h : Row w v xs) (hb : Below w.heap.size w w') : Row w' v xs := by
  rcases h with h | ⟨b, o, cap, rfl, h1, h2, h3, h4⟩
  · exact .inl h
  · exact .inr ⟨b, o, cap, rfl, h1, h2, Nat.lt_of_lt_of_le h3 hb.size, fun j hj => (hb.cell (p := ⟨b, o + j, none⟩) h3).trans (h4 j hj)⟩
theorem Row.drewN {v : Value} {xs : List Value} (h : Row w v xs) (n : Nat) : Row (w.drewN n) v xs := h

/-- The value written out, whatever it is; a cell is asked for where there is one. -/
theorem Row.form {v : Value} {xs : List Value} (h : Row w v xs) : ∃ ad cap, v = .slice ad xs.length cap ∧ xs.length ≤ cap ∧ cap ≤ maxLen ∧
    ∀ j, j < xs.length → ∃ b o, ad = some ⟨b, o, none⟩ ∧ b < w.heap.size ∧ w.cell? ⟨b, o + j, none⟩ = xs[j]? := by
  rcases h with ⟨ad, c, rfl, hc, rfl⟩ | ⟨b, o, cap, rfl, h1, h2, h3, h4⟩
  · exact ⟨ad, c, rfl, Nat.zero_le _, hc, fun j hj => by simp at hj⟩
  · exact ⟨_, cap, rfl, h1, h2, fun j hj => ⟨b, o, rfl, h3, h4 j hj⟩⟩

/-- The first link that is a scope. -/
def firstSc (ns : List Nat) : Option Nat := ns.findIdx? (· != 0)
def idxInt : Option Nat → Int
  | some i => i
  | none => -1

theorem outer1_nil (w : World) : Calls Try.prog 88 #[.pointer none] w fun e w' => e = .returned (.bool false) ∧ w = w' := by
  go_enter Try.func88, Try.ntmps88
  go_wp2
  go_ret
  exact ⟨rfl, rfl⟩
theorem outer1_some (a : Addr) (w : World) : Calls Try.prog 88 #[.pointer (some a)] w fun e w' => e = .returned (.bool true) ∧ w = w' := by
  go_enter Try.func88, Try.ntmps88
  go_wp2
  go_ret
  exact ⟨rfl, rfl⟩

theorem ret_int {k : IntKind} {a b : Int} (h : a = b) : Ending.returned (.int k a) = .returned (.int k b) := by rw [h]

theorem firstSc_none {ns : List Nat} (h : ∀ j, j < ns.length → ns[j]? = some 0) : firstSc ns = none := by
  unfold firstSc
  rw [List.findIdx?_eq_none_iff]
  intro x hx
  obtain ⟨j, hj, rfl⟩ := List.getElem_of_mem hx
  have := h j hj
  rw [List.getElem?_eq_getElem hj] at this
  simp at this
  simp [this]

theorem firstSc_at {ns : List Nat} {k : Nat} {s : Nat} (h : ∀ j, j < k → ns[j]? = some 0) (hk : ns[k]? = some s) (hs : s ≠ 0) : firstSc ns = some k := by
  have hl := (List.getElem?_eq_some_iff.1 hk).1
  have hv := (List.getElem?_eq_some_iff.1 hk).2
  unfold firstSc
  rw [List.findIdx?_eq_some_iff_getElem]
  refine ⟨hl, by simp [hv, hs], fun j hj => ?_⟩
  have := h j hj
  rw [List.getElem?_eq_getElem (by omega)] at this
  simp at this
  simp [this]

theorem indexFunc_empty (ad : Option Addr) (cap : Nat) (w : World) :
    Calls Try.prog 87 #[.slice ad 0 cap, .func (.func 88) #[] #[]] w fun e w' => e = .returned (.int .i64 (-1)) ∧ w = w' := by
  go_enter Try.func87, Try.ntmps87
  go_wp2
  go_rounds 1
  go_ret
  exact ⟨rfl, rfl⟩

theorem indexFunc_raw (b o cap : Nat) (w : World) (ns : List Nat) (hl : ns.length ≤ 9223372036854775807)
    (hc : ∀ j, j < ns.length → w.cell? ⟨b, o + j, none⟩ = (ns.map L.sp)[j]?) :
    Calls Try.prog 87 #[.slice (some ⟨b, o, none⟩) ns.length cap, .func (.func 88) #[] #[]] w fun e w' => e = .returned (.int .i64 (idxInt (firstSc ns))) ∧ w = w' := by
  have HC := Lib.hid hc
  clear hc
  go_enter Try.func87, Try.ntmps87
  go_wp2
  go_loop [8] (fun i => ∃ k : Nat, k ≤ ns.length ∧ i = .int .i64 k ∧ Hid (∀ j, j < k → ns[j]? = some 0)) (fun i => ns.length - (intOf i).toNat)
  case atStart => exact ⟨0, Nat.zero_le _, rfl, fun j hj => by omega⟩
  case round =>
    obtain ⟨k, hk, rfl, hz⟩ := hrel
    by_cases hlt : k < ns.length
    · have hcell := HC.out k hlt
      rw [List.getElem?_map, List.getElem?_eq_getElem hlt, Option.map_some] at hcell
      generalize hs : ns[k] = s at hcell
      have Hs := Lib.hid hs; clear hs
      by_cases h0 : s = 0
      · subst h0
        rw [Lay.sp_zero] at hcell
        go_wp2_with (go_at_call 88; refine (outer1_nil _).mono ?_; rintro e w' ⟨rfl, rfl⟩)
        go_round
        case rel => exact ⟨k + 1, by omega, by go_num, fun j hj => by
          rcases Nat.lt_or_ge j k with h | h
          · exact hz.out j h
          · obtain rfl : j = k := by omega
            rw [List.getElem?_eq_getElem hlt, Hs.out]⟩
        case measure => simp [intOf]; omega
      · have hsp : L.sp s = .pointer (some ⟨L.sb (s - 1), 0, none⟩) := by simp [Lay.sp, h0]
        rw [hsp] at hcell
        have hfin := Lib.hid (firstSc_at hz.out (by rw [List.getElem?_eq_getElem hlt, Hs.out]) h0)
        clear hsp h0
        go_wp2_with (go_at_call 88; refine (outer1_some _ _).mono ?_; rintro e w' ⟨rfl, rfl⟩)
        go_ret
        exact ⟨by rw [hfin.out]; rfl, rfl⟩
    · go_wp2
      go_ret
      exact ⟨by rw [firstSc_none (fun j hj => hz.out j (by omega))]; rfl, rfl⟩

theorem indexFunc_sc {v : Value} {ns : List Nat} (h : Row w v (ns.map L.sp)) :
    Calls Try.prog 87 #[v, .func (.func 88) #[] #[]] w fun e w' => e = .returned (.int .i64 (idxInt (firstSc ns))) ∧ w = w' := by
  rcases h with ⟨ad, c, rfl, _, h0⟩ | ⟨b, o, cap, rfl, h1, h2, h3, h4⟩
  · have : ns = [] := by simpa using h0
    subst this
    exact indexFunc_empty ad c w
  · rw [List.length_map] at h1 h4 ⊢
    unfold maxLen at h2
    exact indexFunc_raw b o cap w ns (by omega) h4

end
end Go.Proofs.Ytoonkidlbnndcaa

namespace Go.Proofs.Ytoonkidlbnndcaa
set_option linter.unusedVariables false
set_option linter.unusedSimpArgs false
open Go.RowKit

/-- The outermost scope among links (0: there is none). -/
def outerN (ns : List Nat) : Nat := (ns.find? (· != 0)).getD 0

theorem outerN_none {ns : List Nat} (h : firstSc ns = none) : outerN ns = 0 := by
  unfold firstSc at h
  unfold outerN
  rw [List.findIdx?_eq_none_iff] at h
  rw [List.find?_eq_none.2 (fun x hx => by have := h x hx; simp_all)]
  rfl

theorem outerN_some {ns : List Nat} {k : Nat} (h : firstSc ns = some k) : ns[k]? = some (outerN ns) ∧ outerN ns ≠ 0 := by
  unfold firstSc at h
  rw [List.findIdx?_eq_some_iff_getElem] at h
  obtain ⟨hl, h1, h2⟩ := h
  have hf : ns.find? (· != 0) = some ns[k] := by
    rw [List.find?_eq_some_iff_getElem]
    exact ⟨h1, k, hl, rfl, fun j hj => by simpa using h2 j hj⟩
  unfold outerN
  rw [hf]
  exact ⟨by rw [List.getElem?_eq_getElem hl]; rfl, by simpa using h1⟩

section
variable {κ : Kap} {L : Lay} {T : TreeA} {w w' : World}

theorem outer_sc {v : Value} {ns : List Nat} (h : Row w v (ns.map L.sp)) :
    Calls Try.prog 72 #[v] w fun e w' => e = .returned (L.sp (outerN ns)) ∧ w = w' := by
  have C := Lib.hid (indexFunc_sc h)
  cases hf : firstSc ns with
  | none =>
    rw [hf] at C
    simp only [idxInt] at C
    rw [outerN_none hf]
    clear hf h
    go_enter Try.func72, Try.ntmps72
    go_wp2_with (go_at_call 87; refine C.out.mono ?_; rintro e w' ⟨rfl, rfl⟩)
    go_ret
    exact ⟨rfl, rfl⟩
  | some k =>
    rw [hf] at C
    simp only [idxInt] at C
    obtain ⟨hk, h0⟩ := outerN_some hf
    have hl := (List.getElem?_eq_some_iff.1 hk).1
    rcases h with ⟨ad, c, rfl, _, h0⟩ | ⟨b, o, cap, rfl, h1, h2, h3, h4⟩
    · have : ns = [] := by simpa using h0
      subst this
      simp at hl
    · rw [List.length_map] at h1 h4 C ⊢
      have hc := h4 k hl
      rw [List.getElem?_map, hk, Option.map_some] at hc
      generalize L.sp (outerN ns) = p at hc ⊢
      unfold maxLen at h2
      clear hf hk h0 h4
      go_enter Try.func72, Try.ntmps72
      go_wp2_with (go_at_call 87; refine C.out.mono ?_; rintro e w' ⟨rfl, rfl⟩)
      go_ret
      exact ⟨rfl, rfl⟩

/-- The place of a scope among links. -/
def placeOf (s : Nat) (ns : List Nat) : Option Nat := ns.findIdx? (· == s)

theorem placeOf_none {s : Nat} {ns : List Nat} (h : ∀ j, j < ns.length → ns[j]? ≠ some s) : placeOf s ns = none := by
  unfold placeOf
  rw [List.findIdx?_eq_none_iff]
  intro x hx
  obtain ⟨j, hj, rfl⟩ := List.getElem_of_mem hx
  have := h j hj
  rw [List.getElem?_eq_getElem hj] at this
  simp at this
  simp [this]

theorem placeOf_at {s : Nat} {ns : List Nat} {k : Nat} (h : ∀ j, j < k → ns[j]? ≠ some s) (hk : ns[k]? = some s) : placeOf s ns = some k := by
  have hl := (List.getElem?_eq_some_iff.1 hk).1
  have hv := (List.getElem?_eq_some_iff.1 hk).2
  unfold placeOf
  rw [List.findIdx?_eq_some_iff_getElem]
  refine ⟨hl, by simp [hv], fun j hj => ?_⟩
  have := h j hj
  rw [List.getElem?_eq_getElem (by omega)] at this
  simp at this
  simp [this]

theorem Try.infoSc : (Try.prog.info? 113).map (fun i => i.size) = some 8 := by kernel_rfl

/-- Two scopes' pointers compared. -/
theorem eql_scopes (R : Rep κ L T w) {i j : Nat} (hi : i < T.scopes.length) (hj : j < T.scopes.length) :
    (binOp .eql 109 (.pointer (some ⟨L.sb i, 0, none⟩)) (.pointer (some ⟨L.sb j, 0, none⟩))).run Try.prog w = .ok (.bool (decide (i = j))) w := by
  obtain ⟨inf, hinf, hsz0⟩ := Option.map_eq_some_iff.1 Try.infoSc
  have hsz : inf.size ≠ 0 := by omega
  by_cases e : i = j
  · subst e
    simp only [decide_true]
    exact run_eql_ptr_same w ⟨L.sb i, 0, none⟩ Try.underlying109 hinf
  · simp only [e, decide_false]
    have hi' := R.scope i _ (List.getElem?_eq_getElem hi)
    have hj' := R.scope j _ (List.getElem?_eq_getElem hj)
    refine run_eql_ptr_other w Try.underlying109 hinf hsz (fun h => ?_) hi' hj'
    have hb : L.sb i = L.sb j := by injection h
    have k1 := R.kscope i _ (List.getElem?_eq_getElem hi)
    have k2 := R.kscope j _ (List.getElem?_eq_getElem hj)
    rw [hb, k2] at k1
    simp at k1
    exact e k1.symm

theorem indexSc_empty (ad : Option Addr) (cap : Nat) (p : Value) (w : World) :
    Calls Try.prog 73 #[.slice ad 0 cap, p] w fun e w' => e = .returned (.int .i64 (-1)) ∧ w = w' := by
  go_enter Try.func73, Try.ntmps73
  go_wp2
  go_rounds 1
  go_ret
  exact ⟨rfl, rfl⟩

theorem indexSc_raw (b o cap s : Nat) (w : World) (ns : List Nat) (hl : ns.length ≤ 9223372036854775807)
    (hc : ∀ j, j < ns.length → w.cell? ⟨b, o + j, none⟩ = (ns.map L.sp)[j]?)
    (he : ∀ n, n ∈ ns → n ≠ 0 → (binOp .eql 109 (.pointer (some ⟨L.sb s, 0, none⟩)) (.pointer (some ⟨L.sb (n - 1), 0, none⟩))).run Try.prog w = .ok (.bool (decide (s = n - 1))) w) :
    Calls Try.prog 73 #[.slice (some ⟨b, o, none⟩) ns.length cap, .pointer (some ⟨L.sb s, 0, none⟩)] w fun e w' => e = .returned (.int .i64 (idxInt (placeOf (s + 1) ns))) ∧ w = w' := by
  have HC := Lib.hid hc
  have HE := Lib.hid he
  clear hc he
  go_enter Try.func73, Try.ntmps73
  go_wp2
  go_loop [8] (fun i => ∃ k : Nat, k ≤ ns.length ∧ i = .int .i64 k ∧ Hid (∀ j, j < k → ns[j]? ≠ some (s + 1))) (fun i => ns.length - (intOf i).toNat)
  case atStart => exact ⟨0, Nat.zero_le _, rfl, fun j hj => by omega⟩
  case round =>
    obtain ⟨k, hk, rfl, hz⟩ := hrel
    by_cases hlt : k < ns.length
    · have hcell := HC.out k hlt
      have hmem : ns[k] ∈ ns := List.getElem_mem hlt
      rw [List.getElem?_map, List.getElem?_eq_getElem hlt, Option.map_some] at hcell
      have hee := HE.out _ hmem
      generalize hs : ns[k] = n at hcell hee
      have Hs := Lib.hid hs; clear hs hmem
      by_cases h0 : n = 0
      · subst h0
        rw [Lay.sp_zero] at hcell
        clear hee
        go_wp2
        go_round
        case rel => exact ⟨k + 1, by omega, by go_num, fun j hj => by
          rcases Nat.lt_or_ge j k with h | h
          · exact hz.out j h
          · obtain rfl : j = k := by omega
            rw [List.getElem?_eq_getElem hlt, Hs.out]; simp⟩
        case measure => simp [intOf]; omega
      · have hsp : L.sp n = .pointer (some ⟨L.sb (n - 1), 0, none⟩) := by simp [Lay.sp, h0]
        rw [hsp] at hcell
        have hee := hee h0
        by_cases e : s = n - 1
        · simp only [e, decide_true] at hee
          rw [← e] at hee
          have hns : n = s + 1 := by omega
          have hfin := Lib.hid (placeOf_at (s := s + 1) hz.out (by rw [List.getElem?_eq_getElem hlt, Hs.out, hns]))
          clear hns
          clear hsp h0
          have He := Lib.hid e
          clear e
          rw [← He.out] at hcell
          go_wp2
          go_ret
          exact ⟨by rw [hfin.out]; rfl, rfl⟩
        · simp only [e, decide_false] at hee
          have hne : ∀ j, j < k + 1 → ns[j]? ≠ some (s + 1) := fun j hj => by
            rcases Nat.lt_or_ge j k with h | h
            · exact hz.out j h
            · obtain rfl : j = k := by omega
              rw [List.getElem?_eq_getElem hlt, Hs.out]; simp; omega
          have Hne := Lib.hid hne
          clear hsp h0 e hne
          go_wp2
          go_round
          case rel => exact ⟨k + 1, by omega, by go_num, Hne.out⟩
          case measure => simp [intOf]; omega
    · go_wp2
      go_ret
      exact ⟨by rw [placeOf_none (fun j hj => hz.out j (by omega))]; rfl, rfl⟩

theorem index_sc (R : Rep κ L T w) {v : Value} {ns : List Nat} {s : Nat} (h : Row w v (ns.map L.sp)) (hs : s < T.scopes.length) (hn : ∀ n, n ∈ ns → n ≤ T.scopes.length) :
    Calls Try.prog 73 #[v, .pointer (some ⟨L.sb s, 0, none⟩)] w fun e w' => e = .returned (.int .i64 (idxInt (placeOf (s + 1) ns))) ∧ w = w' := by
  rcases h with ⟨ad, c, rfl, _, h0⟩ | ⟨b, o, cap, rfl, h1, h2, h3, h4⟩
  · have : ns = [] := by simpa using h0
    subst this
    exact indexSc_empty ad c _ w
  · rw [List.length_map] at h1 h4 ⊢
    unfold maxLen at h2
    exact indexSc_raw b o cap s w ns (by omega) h4 (fun n hmem h0 => eql_scopes R hs (by have := hn n hmem; omega))

end
end Go.Proofs.Ytoonkidlbnndcaa

namespace Go.Proofs.Ytoonkidlbnndcaa
set_option linter.unusedVariables false
set_option linter.unusedSimpArgs false
open Go.RowKit

def okByte (c : UInt8) : Bool := decide (32 ≤ c.toNat) && decide (c.toNat ≤ 126)
def okText (s : ByteArray) : Bool := decide (s.size ≤ 60) && s.data.toList.all okByte
def okFlt (f : Flt) : Bool := if f.kind = 0 ∨ f.kind = 2 then f.text.toList.isEmpty else if f.kind = 1 then okText f.text else false
def fltV (f : Flt) : Value := .agg #[.int .i64 f.kind, .string f.text]

theorem ret_bool {a b : Bool} (h : a = b) : Ending.returned (.bool a) = .returned (.bool b) := by rw [h]

theorem okText_false {s : ByteArray} {k : Nat} (h : k < s.size) (hb : (s[k].toNat : Int) < 32 ∨ 126 < (s[k].toNat : Int)) : okText s = false := by
  unfold okText
  have : s.data.toList.all okByte = false := by
    rw [List.all_eq_false]
    refine ⟨s[k], ?_, ?_⟩
    · exact List.getElem_mem (l := s.data.toList) (n := k) (by simpa using h)
    · unfold okByte; rw [Bool.not_eq_true, Bool.and_eq_false_iff]; simp; omega
  rw [this]; simp

theorem okText_true {s : ByteArray} (h : s.size ≤ 60) (hb : ∀ k (h : k < s.size), ¬ (s[k].toNat : Int) < 32 ∧ ¬ 126 < (s[k].toNat : Int)) : okText s = true := by
  unfold okText
  simp only [h, decide_true, Bool.true_and, List.all_eq_true]
  intro x hx
  obtain ⟨k, hk, rfl⟩ := List.getElem_of_mem hx
  have hk' : k < s.size := by simpa using hk
  have := hb k hk'
  have e : s.data.toList[k] = s[k] := rfl
  rw [e]
  unfold okByte
  simp
  omega

set_option maxHeartbeats 400000 in
theorem text_any (s : ByteArray) (w : World) :
    Calls Try.prog 91 #[.string s] w fun e w' => e = .returned (.bool (okText s)) ∧ w = w' := by
  by_cases h60 : s.size ≤ 60
  · have hfin : (∀ k (h : k < s.size), ¬ (s[k].toNat : Int) < 32 ∧ ¬ 126 < (s[k].toNat : Int)) → okText s = true := okText_true h60
    have hbad : ∀ k (h : k < s.size), ((s[k].toNat : Int) < 32 ∨ 126 < (s[k].toNat : Int)) → okText s = false := fun k h => okText_false h
    have HF := Lib.hid hfin
    have HB := Lib.hid hbad
    clear hfin hbad
    go_enter Try.func91, Try.ntmps91
    go_wp2
    go_loop [9] (fun i => ∃ k : Nat, k ≤ s.size ∧ i = .int .i64 k ∧ Hid (∀ j (h : j < s.size), j < k → ¬ (s[j].toNat : Int) < 32 ∧ ¬ 126 < (s[j].toNat : Int))) (fun i => s.size - (intOf i).toNat)
    case atStart => exact ⟨0, Nat.zero_le _, rfl, fun j _ hj => by omega⟩
    case round =>
      obtain ⟨k, hk, rfl, hz⟩ := hrel
      by_cases hlt : k < s.size
      · by_cases h1 : (s[k].toNat : Int) < 32
        · have hb := Lib.hid (HB.out k hlt (.inl h1))
          go_wp2
          go_ret
          exact ⟨ret_bool hb.out.symm, rfl⟩
        · by_cases h2 : 126 < (s[k].toNat : Int)
          · have hb := Lib.hid (HB.out k hlt (.inr h2))
            go_wp2
            go_ret
            exact ⟨ret_bool hb.out.symm, rfl⟩
          · have hn : Hid (∀ j (h : j < s.size), j < k + 1 → ¬ (s[j].toNat : Int) < 32 ∧ ¬ 126 < (s[j].toNat : Int)) := fun j h hj => by
              rcases Nat.lt_or_ge j k with h' | h'
              · exact hz.out j h h'
              · obtain rfl : j = k := by omega
                exact ⟨h1, h2⟩
            go_wp2
            go_round
            case rel => exact ⟨k + 1, by omega, by go_num, hn⟩
            case measure => simp [intOf]; omega
      · go_wp2
        go_ret
        exact ⟨ret_bool (HF.out fun j h => by have := hz.out j h (by omega); omega).symm, rfl⟩
  · have hb : okText s = false := by unfold okText; simp [h60]
    have hsz : 60 < s.size := by omega
    clear h60
    have Hb := Lib.hid hb
    clear hb
    go_enter Try.func91, Try.ntmps91
    go_wp2
    go_ret
    exact ⟨ret_bool Hb.out.symm, rfl⟩

theorem fault_any (f : Flt) (w : World) :
    Calls Try.prog 84 #[fltV f] w fun e w' => e = .returned (.bool (okFlt f)) ∧ Below w.heap.size w w' := by
  obtain ⟨k, s⟩ := f
  unfold fltV okFlt
  simp only []
  by_cases h0 : k = 0
  · subst h0
    go_enter Try.func84, Try.ntmps84
    go_wp2
    go_ret
    exact ⟨by simp, by go_grown⟩
  by_cases h2 : k = 2
  · subst h2
    go_enter Try.func84, Try.ntmps84
    go_wp2
    go_ret
    exact ⟨by simp, by go_grown⟩
  have e0 : (k == 0) = false := by simpa using h0
  have e2 : (k == 2) = false := by simpa using h2
  rw [if_neg (by omega)]
  by_cases h1 : k = 1
  · subst h1
    go_enter Try.func84, Try.ntmps84
    go_wp2_with (go_at_call 91; refine (text_any _ _).mono ?_; rintro e w' ⟨rfl, rfl⟩)
    go_ret
    exact ⟨by simp, by go_grown⟩
  · have e1 : (k == 1) = false := by simpa using h1
    rw [if_neg h1]
    clear h0 h1 h2
    go_enter Try.func84, Try.ntmps84
    go_wp2
    go_ret
    exact ⟨rfl, by go_grown⟩

section
variable {κ : Kap} {L : Lay} {T : TreeA} {w : World}

theorem blame_no (R : Rep κ L T w) {i : Nat} {s : ScopeA} (hs : T.scopes[i]? = some s) {f : Flt} (h : f.kind ≠ 1 ∨ s.flt.kind ≠ 0) :
    Calls Try.prog 85 #[.pointer (some ⟨L.sb i, 0, none⟩), fltV f] w fun e w' => e = .returned (.bool false) ∧ Below w.heap.size w w' := by
  obtain ⟨_, _, _, _, _, _, d6, _⟩ := R.scells hs
  have hlt := (R.scope i s hs).lt
  obtain ⟨k, t⟩ := f
  unfold fltV
  simp only [] at h ⊢
  by_cases h1 : k = 1
  · have h0 : s.flt.kind ≠ 0 := by omega
    have e0 : (s.flt.kind != 0) = true := by simpa using h0
    subst h1
    clear R hs h h0
    go_enter Try.func85, Try.ntmps85
    go_wp2
    go_ret
    exact ⟨rfl, by go_grown⟩
  · have e0 : (k != 1) = true := by simpa using h1
    clear R hs h h1
    go_enter Try.func85, Try.ntmps85
    go_wp2
    go_ret
    exact ⟨rfl, by go_grown⟩

theorem blame_yes (R : Rep κ L T w) {i : Nat} {s : ScopeA} (hs : T.scopes[i]? = some s) {f : Flt} (h1 : f.kind = 1) (h0 : s.flt.kind = 0) :
    Calls Try.prog 85 #[.pointer (some ⟨L.sb i, 0, none⟩), fltV f] w fun e w' => e = .returned (.bool true) ∧ Rep κ L { T with scopes := T.scopes.set i { s with flt := f } } w' ∧ Ext κ κ w w' := by
  obtain ⟨_, _, _, _, _, _, d6, d7⟩ := R.scells hs
  have hB := R.scope i s hs
  have hlt := hB.lt
  have hf6 := hB.frozen 6
  have hf7 := hB.frozen 7
  have hfin : ∀ w', w.grownBy w' (some (L.sb i)) → Blk w' (L.sb i) 113 (L.scells i { s with flt := f }) → Rep κ L { T with scopes := T.scopes.set i { s with flt := f } } w' ∧ Ext κ κ w w' := fun w' hg hb =>
    ⟨R.setScope hs rfl hg hb, (Ext.refl κ w).grown hg (fun b e => by cases e; rw [R.kscope i s hs]; simp)⟩
  obtain ⟨k, t⟩ := f
  unfold fltV
  simp only [] at h1 hfin ⊢
  subst h1
  rw [h0] at d6
  have HF := Lib.hid hfin
  have HB := Lib.hid hB
  generalize hsb : L.sb i = b at *
  clear R hs h0 hfin hB hsb
  go_enter Try.func85, Try.ntmps85
  go_wp2
  go_ret
  refine ⟨rfl, HF.out _ ?_ ?_⟩
  · exact gb_alloc (gb_at (gb_at (gb_refl _ _) _ _) _ _) _
  · refine Blk.alloc ?_ _
    rw [← scells_flt]
    exact (HB.out.set_ 6 _).set_ 7 _

end
end Go.Proofs.Ytoonkidlbnndcaa
