/-
  The block of a scope has ended: (*Tree).Leave.
  The block of a scope has ended: (*Tree).Leave, where it may.
-/
import Derived.Test.YtoonkidlbnndcaaFail
namespace Go.Proofs.Ytoonkidlbnndcaa
set_option linter.unusedVariables false
set_option linter.unusedSimpArgs false
open Go.RowKit

section
variable {κ : Kap} {L : Lay} {T : TreeA} {w w' : World}

theorem leave_nil (n : Int) (f : Flt) (w : World) : Calls Try.prog 65 #[.pointer none, .int .i64 n, fltV f] w fun e w' => e = .returned (.tuple #[.slice none 0 0, .int .i64 2]) ∧ Below w.heap.size w w' := by
  obtain ⟨k, t⟩ := f
  unfold fltV
  simp only []
  go_enter Try.func65, Try.ntmps65
  go_wp2_with (go_at_call 74; refine (runs_nil _ _).mono ?_; rintro e w' ⟨rfl, rfl⟩)
  go_ret2
  exact ⟨rfl, by go_grown⟩
theorem leave_none (R : Rep κ L T w) {n : Int} (f : Flt) (h : T.run? n = none) :
    Calls Try.prog 65 #[.pointer (some ⟨L.t, 0, none⟩), .int .i64 n, fltV f] w fun e w' => e = .returned (.tuple #[.slice none 0 0, .int .i64 6]) ∧ Below w.heap.size w w' := by
  obtain ⟨k, t⟩ := f
  unfold fltV
  simp only []
  have C : Hid (∀ o, _) := fun o => runs_none (R.alloc o) h
  clear R h
  go_enter Try.func65, Try.ntmps65
  go_wp2_with (go_at_call 74; refine (C.out _).mono ?_; rintro e w' ⟨rfl, rfl⟩)
  go_ret2
  exact ⟨rfl, by go_grown⟩
theorem leave_arg (R : Rep κ L T w) {n : Int} {i : Nat} (f : Flt) (h : T.run? n = some i) (hok : okFlt f = false) :
    Calls Try.prog 65 #[.pointer (some ⟨L.t, 0, none⟩), .int .i64 n, fltV f] w fun e w' => e = .returned (.tuple #[.slice none 0 0, .int .i64 2]) ∧ Below w.heap.size w w' := by
  have V := Lib.hid (fault_any f)
  rw [hok] at V
  obtain ⟨k, t⟩ := f
  unfold fltV at V ⊢
  simp only [] at V ⊢
  have C : Hid (∀ o, _) := fun o => runs_some (R.alloc o) h
  clear R h hok
  go_enter Try.func65, Try.ntmps65
  go_wp2_with (first | (go_at_call 74; refine (C.out _).mono ?_; rintro e w' ⟨rfl, rfl⟩) | (go_at_call 84; refine (V.out _).mono ?_; rintro e w' ⟨rfl, hb⟩))
  go_ret2
  exact ⟨rfl, ((Below.refl _ _).alloc (Nat.le_refl _) _).trans (hb.mono (by simp))⟩

/-- Where Leave is not allowed. -/
def leaveBad (x : TaskA) : Prop := x.leaving = true ∨ x.opn = [] ∨ x.opn.getLast? = some 0

set_option maxRecDepth 100000 in
theorem leave_bad (R : Rep κ L T w) {n : Int} {i : Nat} {x : TaskA} (f : Flt) (h : T.run? n = some i) (hx : T.tasks[i]? = some x) (hok : okFlt f = true) (hb : leaveBad x) :
    Calls Try.prog 65 #[.pointer (some ⟨L.t, 0, none⟩), .int .i64 n, fltV f] w fun e w' => e = .returned (.tuple #[.slice none 0 0, .int .i64 22]) ∧ Below w.heap.size w w' := by
  have V := Lib.hid (fault_any f)
  rw [hok] at V
  have C : Hid (∀ o, _) := fun o => runs_some (R.alloc o) h
  have D3 : Hid (∀ W, Below w.heap.size w W → W.cell? ⟨L.tb i, 3, none⟩ = some (.bool x.leaving)) := fun W hW => (R.below hW).tcells hx |>.2.2.2.1
  by_cases hemp : x.opn = []
  · have I : Hid (∀ W, Below w.heap.size w W → _) := fun W hW => inner_none (R.below hW) hx hemp
    obtain ⟨k, t⟩ := f
    unfold fltV at V ⊢
    simp only [] at V ⊢
    generalize x.leaving = lv at *
    clear R h hx hok hb hemp
    cases lv
    all_goals
      go_enter Try.func65, Try.ntmps65
      go_wp2_with (first | (go_at_call 74; refine (C.out _).mono ?_; rintro e w' ⟨rfl, rfl⟩) | (go_at_call 84; refine (V.out _).mono ?_; rintro e w' ⟨rfl, hb⟩; have hb1 := ((Below.refl _ _).alloc (Nat.le_refl _) _).trans (hb.mono (by simp)); have d3 := D3.out _ hb1) | (go_at_call 78; refine (I.out _ hb1).mono ?_; rintro e w2 ⟨rfl, rfl⟩))
      go_ret2
      exact ⟨rfl, hb1⟩
  obtain ⟨l, m, hlm⟩ : ∃ l m, x.opn = l ++ [m] := ⟨_, _, (List.dropLast_concat_getLast hemp).symm⟩
  have I : Hid (∀ W, Below w.heap.size w W → _) := fun W hW => inner_some (R.below hW) hx hlm
  by_cases hlv : x.leaving = true
  · rw [hlv] at D3
    obtain ⟨k, t⟩ := f
    unfold fltV at V ⊢
    simp only [] at V ⊢
    clear R h hx hok hb hemp hlv hlm
    generalize L.sp m = p at *
    go_enter Try.func65, Try.ntmps65
    go_wp2_with (first | (go_at_call 74; refine (C.out _).mono ?_; rintro e w' ⟨rfl, rfl⟩) | (go_at_call 84; refine (V.out _).mono ?_; rintro e w' ⟨rfl, hb⟩; have hb1 := ((Below.refl _ _).alloc (Nat.le_refl _) _).trans (hb.mono (by simp)); have d3 := D3.out _ hb1) | (go_at_call 78; refine (I.out _ hb1).mono ?_; rintro e w2 ⟨rfl, kk, rfl⟩))
    go_ret2
    exact ⟨rfl, hb1.trans ⟨rfl, rfl, rfl, Nat.le_refl _, fun _ _ => rfl⟩⟩
  · have hlv' : x.leaving = false := by simpa using hlv
    have hm : m = 0 := by
      rcases hb with hb | hb | hb
      · exact absurd hb hlv
      · exact absurd hb hemp
      · rw [hlm] at hb; simpa using hb
    subst hm
    rw [hlv'] at D3
    rw [Lay.sp_zero] at I
    obtain ⟨k, t⟩ := f
    unfold fltV at V ⊢
    simp only [] at V ⊢
    clear R h hx hok hb hemp hlv hlv' hlm
    go_enter Try.func65, Try.ntmps65
    go_wp2_with (first | (go_at_call 74; refine (C.out _).mono ?_; rintro e w' ⟨rfl, rfl⟩) | (go_at_call 84; refine (V.out _).mono ?_; rintro e w' ⟨rfl, hb⟩; have hb1 := ((Below.refl _ _).alloc (Nat.le_refl _) _).trans (hb.mono (by simp)); have d3 := D3.out _ hb1) | (go_at_call 78; refine (I.out _ hb1).mono ?_; rintro e w2 ⟨rfl, kk, rfl⟩))
    go_ret2
    exact ⟨rfl, hb1.trans ⟨rfl, rfl, rfl, Nat.le_refl _, fun _ _ => rfl⟩⟩

end
end Go.Proofs.Ytoonkidlbnndcaa

namespace Go.Proofs.Ytoonkidlbnndcaa
set_option linter.unusedVariables false
set_option linter.unusedSimpArgs false
open Go.RowKit

/-- Scope i gets a fault, if it has none and it is an error. -/
def TreeA.blame (T : TreeA) (i : Nat) (f : Flt) : TreeA := { T with scopes := T.scopes.modify i fun s => if f.kind = 1 ∧ s.flt.kind = 0 then { s with flt := f } else s }
def blameS (s : ScopeA) (f : Flt) : ScopeA := if f.kind = 1 ∧ s.flt.kind = 0 then { s with flt := f } else s

theorem modify_set {α : Type} {l : List α} {i : Nat} {x : α} (h : l[i]? = some x) (f : α → α) : l.modify i f = l.set i (f x) := by
  apply List.ext_getElem?
  intro j
  rw [List.getElem?_modify, List.getElem?_set]
  by_cases e : i = j
  · subst e
    have hl := (List.getElem?_eq_some_iff.1 h).1
    rw [List.getElem?_eq_getElem hl] at h
    simp only [Option.some.injEq] at h
    simp [hl, h]
  · simp [e]

theorem set_get {α : Type} {l : List α} {i : Nat} {x : α} (h : l[i]? = some x) : l.set i x = l := by
  apply List.ext_getElem?
  intro j
  rw [List.getElem?_set]
  by_cases e : i = j
  · subst e
    have hl := (List.getElem?_eq_some_iff.1 h).1
    rw [List.getElem?_eq_getElem hl] at h
    simp only [Option.some.injEq] at h
    simp [hl, h]
  · simp [e]

theorem TreeA.blame_eq {T : TreeA} {i : Nat} {s : ScopeA} (hs : T.scopes[i]? = some s) (f : Flt) : T.blame i f = { T with scopes := T.scopes.set i (blameS s f) } := by
  unfold TreeA.blame
  rw [modify_set hs]
  rfl
theorem TreeA.blame_look {T : TreeA} {i : Nat} {s : ScopeA} (hs : T.scopes[i]? = some s) (f : Flt) : (T.blame i f).scopes[i]? = some (blameS s f) := by
  rw [TreeA.blame_eq hs]
  have hl := (List.getElem?_eq_some_iff.1 hs).1
  simp [hl]
theorem blameS_live (s : ScopeA) (f : Flt) : (blameS s f).live = s.live ∧ (blameS s f).owner = s.owner ∧ (blameS s f).kids = s.kids ∧ (blameS s f).over = s.over ∧ (blameS s f).sup = s.sup := by unfold blameS; split <;> simp

section
variable {κ κ' : Kap} {L : Lay} {T : TreeA} {w w' : World}

theorem Ext.cell (E : Ext κ κ' w w') {p : Addr} (hk : κ p.block = none) (hp : p.block < w.heap.size) : w'.cell? p = w.cell? p := World.cell?_of_block (E.keep _ hp hk)
theorem Ext.frozen (E : Ext κ κ' w w') {p : Addr} (hk : κ p.block = none) (hp : p.block < w.heap.size) : w'.frozen? p = w.frozen? p := World.frozen?_of_block (E.keep _ hp hk)

theorem blame_any (R : Rep κ L T w) {i : Nat} {s : ScopeA} (hs : T.scopes[i]? = some s) (f : Flt) :
    Calls Try.prog 85 #[.pointer (some ⟨L.sb i, 0, none⟩), fltV f] w fun e w' => (∃ b, e = .returned (.bool b) ∧ b = decide (f.kind = 1 ∧ s.flt.kind = 0)) ∧ Rep κ L (T.blame i f) w' ∧ Ext κ κ w w' := by
  by_cases h : f.kind = 1 ∧ s.flt.kind = 0
  · refine (blame_yes R hs h.1 h.2).mono fun e w' ⟨h1, h2, h3⟩ => ⟨⟨true, h1, by simp [h]⟩, ?_, h3⟩
    rw [TreeA.blame_eq hs, blameS, if_pos h]
    exact h2
  · refine (blame_no R hs (by omega)).mono fun e w' ⟨h1, h2⟩ => ⟨⟨false, h1, by simp only [h, decide_false]⟩, ?_, Ext.of_below h2⟩
    rw [TreeA.blame_eq hs, blameS, if_neg h, set_get hs]
    exact R.below h2

theorem leaving_mem (R : Rep κ L T w) {i : Nat} {x : TaskA} (hx : T.tasks[i]? = some x) (k : Int) (t : ByteArray) :
    Rep κ L { T with tasks := T.tasks.set i { x with leaving := true, flt := ⟨k, t⟩ } } (((w.setCell ⟨L.tb i, 3, none⟩ (.bool true)).setCell ⟨L.tb i, 5, none⟩ (.int .i64 k)).setCell ⟨L.tb i, 6, none⟩ (.string t)) ∧
    Ext κ κ w (((w.setCell ⟨L.tb i, 3, none⟩ (.bool true)).setCell ⟨L.tb i, 5, none⟩ (.int .i64 k)).setCell ⟨L.tb i, 6, none⟩ (.string t)) := by
  have hk := R.ktask i x hx
  refine ⟨R.setTask hx rfl (gb_at (gb_at (gb_at (gb_refl _ _) _ _) _ _) _ _) ?_, (((Ext.refl κ w).setCell (by rw [hk]; simp) _).setCell (by rw [hk]; simp) _).setCell (by rw [hk]; simp) _⟩
  have e : L.tcells i { x with leaving := true, flt := ⟨k, t⟩ } = (((L.tcells i x).setIfInBounds 3 (.bool true)).setIfInBounds 5 (.int .i64 k)).setIfInBounds 6 (.string t) := rfl
  rw [e]
  exact (((R.task i x hx).set_ 3 _).set_ 5 _).set_ 6 _

/-- The tree in which task i leaves scope j with the fault f, and the scope has got it. -/
def TreeA.leaves (T : TreeA) (i j : Nat) (x : TaskA) (f : Flt) : TreeA := { T.blame j f with tasks := T.tasks.set i { x with leaving := true, flt := f } }

end
end Go.Proofs.Ytoonkidlbnndcaa
