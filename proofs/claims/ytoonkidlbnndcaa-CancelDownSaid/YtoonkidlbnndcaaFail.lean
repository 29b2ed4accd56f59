/-
  A scope fails: (*Tree).Fail.
-/
import Derived.Test.YtoonkidlbnndcaaFinish2
namespace Go.Proofs.Ytoonkidlbnndcaa
set_option linter.unusedVariables false
set_option linter.unusedSimpArgs false
open Go.RowKit

section
variable {κ : Kap} {L : Lay} {T : TreeA} {w w' : World}

theorem eown_nil (κ : Kap) (w : World) : EOwn κ w (.slice none 0 0) [] := ⟨World.ownsRow_nil _ _ _ _, fun b hb => by cases hb⟩
theorem eown_one {κ : Kap} {w : World} (hn : κ w.heap.size = none) (e : EffA) : EOwn κ (w.alloc (.cells #[.int .i64 e.kind, .int .i64 e.n, .int .i64 e.m, .int .i64 e.flt.kind, .string e.flt.text] 62)) (.slice (some ⟨w.heap.size, 0, none⟩) 1 1) [e] := by
  refine ⟨?_, fun b hb => ?_⟩
  · have := World.ownsRow_lit (base := 0) (e := 62) (size := 5) w #[.int .i64 e.kind, .int .i64 e.n, .int .i64 e.m, .int .i64 e.flt.kind, .string e.flt.text] 1 (Nat.zero_le _) (by unfold maxLen; omega) rfl
    simpa [EffA.cells] using this
  · have : b = w.heap.size := by simpa [Value.ownBlock] using hb.symm
    subst this
    exact hn

def scopeEff (i : Nat) : EffA := ⟨1, (i : Int) + 1, 0, .none⟩
def TreeA.blamed (T : TreeA) (i : Nat) (s : ScopeA) (f : Flt) : TreeA := { T with scopes := T.scopes.set i { s with flt := f } }

theorem fail_nil (n : Int) (f : Flt) (w : World) : Calls Try.prog 66 #[.pointer none, .int .i64 n, fltV f] w fun e w' => e = .returned (.tuple #[.slice none 0 0, .int .i64 2]) ∧ Below w.heap.size w w' := by
  obtain ⟨k, t⟩ := f
  unfold fltV
  simp only []
  go_enter Try.func66, Try.ntmps66
  go_wp2_with (go_at_call 70; refine (scope_nil _ _).mono ?_; rintro e w' ⟨rfl, rfl⟩)
  go_ret2
  exact ⟨rfl, by go_grown⟩
theorem fail_none (R : Rep κ L T w) {n : Int} (f : Flt) (h : T.scope? n = none) :
    Calls Try.prog 66 #[.pointer (some ⟨L.t, 0, none⟩), .int .i64 n, fltV f] w fun e w' => e = .returned (.tuple #[.slice none 0 0, .int .i64 6]) ∧ Below w.heap.size w w' := by
  obtain ⟨k, t⟩ := f
  unfold fltV
  simp only []
  have C : Hid (∀ o, _) := fun o => scope_none (R.alloc o) h
  clear R h
  go_enter Try.func66, Try.ntmps66
  go_wp2_with (go_at_call 70; refine (C.out _).mono ?_; rintro e w' ⟨rfl, rfl⟩)
  go_ret2
  exact ⟨rfl, by go_grown⟩
theorem fail_over (R : Rep κ L T w) {n : Int} {i : Nat} {s : ScopeA} (f : Flt) (h : T.scope? n = some i) (hs : T.scopes[i]? = some s) (ho : s.over = true) :
    Calls Try.prog 66 #[.pointer (some ⟨L.t, 0, none⟩), .int .i64 n, fltV f] w fun e w' => e = .returned (.tuple #[.slice none 0 0, .int .i64 6]) ∧ Below w.heap.size w w' := by
  obtain ⟨k, t⟩ := f
  unfold fltV
  simp only []
  have C : Hid (∀ o, _) := fun o => scope_some (R.alloc o) h
  obtain ⟨_, _, _, d3, _⟩ := R.scells hs
  have hlt := (R.scope i s hs).lt
  rw [ho] at d3
  clear R h hs ho
  go_enter Try.func66, Try.ntmps66
  go_wp2_with (go_at_call 70; refine (C.out _).mono ?_; rintro e w' ⟨rfl, rfl⟩)
  go_ret2
  exact ⟨rfl, by go_grown⟩
theorem fail_arg (R : Rep κ L T w) {n : Int} {i : Nat} {s : ScopeA} (f : Flt) (h : T.scope? n = some i) (hs : T.scopes[i]? = some s) (ho : s.over = false) (hf : f.kind ≠ 1 ∨ okFlt f = false) :
    Calls Try.prog 66 #[.pointer (some ⟨L.t, 0, none⟩), .int .i64 n, fltV f] w fun e w' => e = .returned (.tuple #[.slice none 0 0, .int .i64 2]) ∧ Below w.heap.size w w' := by
  have C : Hid (∀ o, _) := fun o => scope_some (R.alloc o) h
  have V := Lib.hid (fault_any f)
  obtain ⟨_, _, _, d3, _⟩ := R.scells hs
  have hlt := (R.scope i s hs).lt
  rw [ho] at d3
  obtain ⟨k, t⟩ := f
  unfold fltV at V ⊢
  simp only [] at V hf ⊢
  by_cases hk : k = 1
  · have hok : okFlt ⟨k, t⟩ = false := by
      rcases hf with hf | hf
      · exact absurd hk hf
      · exact hf
    subst hk
    rw [hok] at V
    clear R h hs ho hf hok
    go_enter Try.func66, Try.ntmps66
    go_wp2_with (first | (go_at_call 70; refine (C.out _).mono ?_; rintro e w' ⟨rfl, rfl⟩) | (go_at_call 84; refine (V.out _).mono ?_; rintro e w' ⟨rfl, hb⟩))
    go_ret2
    exact ⟨rfl, ((Below.refl _ _).alloc (Nat.le_refl _) _).trans (hb.mono (by simp))⟩
  · have e0 : (k != 1) = true := by simpa using hk
    clear R h hs ho hf hk
    go_enter Try.func66, Try.ntmps66
    go_wp2_with (go_at_call 70; refine (C.out _).mono ?_; rintro e w' ⟨rfl, rfl⟩)
    go_ret2
    exact ⟨rfl, by go_grown⟩
theorem fail_had (R : Rep κ L T w) {n : Int} {i : Nat} {s : ScopeA} (f : Flt) (h : T.scope? n = some i) (hs : T.scopes[i]? = some s) (ho : s.over = false) (hf : f.kind = 1) (hok : okFlt f = true) (hb : s.flt.kind ≠ 0) :
    Calls Try.prog 66 #[.pointer (some ⟨L.t, 0, none⟩), .int .i64 n, fltV f] w fun e w' => e = .returned (.tuple #[.slice none 0 0, .int .i64 0]) ∧ Below w.heap.size w w' := by
  have C : Hid (∀ o, _) := fun o => scope_some (R.alloc o) h
  have V := Lib.hid (fault_any f)
  have B : Hid (∀ (W : World), Below w.heap.size w W → _) := fun W hW => blame_no (R.below hW) hs (f := f) (.inr hb)
  obtain ⟨_, _, _, d3, _⟩ := R.scells hs
  have hlt := (R.scope i s hs).lt
  rw [ho] at d3
  rw [hok] at V
  obtain ⟨k, t⟩ := f
  unfold fltV at V B ⊢
  simp only [] at V B hf ⊢
  subst hf
  clear R h hs ho hok hb
  go_enter Try.func66, Try.ntmps66
  go_wp2_with (first | (go_at_call 70; refine (C.out _).mono ?_; rintro e w' ⟨rfl, rfl⟩) | (go_at_call 84; refine (V.out _).mono ?_; rintro e w' ⟨rfl, hb⟩; obtain ⟨hc, hfz⟩ := bcell hb; have hb1 := ((Below.refl _ _).alloc (Nat.le_refl _) _).trans (hb.mono (by simp))) | (go_at_call 85; refine (B.out _ hb1).mono ?_; rintro e w2 ⟨rfl, hb2⟩))
  go_ret2
  exact ⟨rfl, hb1.trans (hb2.mono hb1.size)⟩

theorem fail_ok (R : Rep κ L T w) {n : Int} {i : Nat} {s : ScopeA} (f : Flt) (h : T.scope? n = some i) (hs : T.scopes[i]? = some s) (ho : s.over = false) (hf : f.kind = 1) (hok : okFlt f = true) (hb : s.flt.kind = 0) :
    Calls Try.prog 66 #[.pointer (some ⟨L.t, 0, none⟩), .int .i64 n, fltV f] w fun e w' => ∃ v, e = .returned (.tuple #[v, .int .i64 0]) ∧
      Rep κ L (T.blamed i s f) w' ∧ Ext κ κ w w' ∧ EOwn κ w' v [scopeEff i] := by
  have C : Hid (∀ o, _) := fun o => scope_some (R.alloc o) h
  have V := Lib.hid (fault_any f)
  have hn : n = (i : Int) + 1 := (TreeA.scope?_some h).1
  have B : Hid (∀ (W : World), Below w.heap.size w W → Calls Try.prog 85 #[.pointer (some ⟨L.sb i, 0, none⟩), fltV f] W fun e w' => e = .returned (.bool true) ∧ Rep κ L (T.blamed i s f) w' ∧ Ext κ κ w w') := fun W hW =>
    (blame_yes (R.below hW) hs hf hb).mono fun e w' ⟨h1, h2, h3⟩ => ⟨h1, h2, (Ext.of_below hW).trans h3⟩
  obtain ⟨_, _, _, d3, _⟩ := R.scells hs
  have hlt := (R.scope i s hs).lt
  rw [ho] at d3
  rw [hok] at V
  obtain ⟨k, t⟩ := f
  unfold fltV at V B ⊢
  simp only [] at hf
  subst hf
  generalize hT : T.blamed i s ⟨1, t⟩ = T' at *
  subst hn
  clear R h hs ho hok hb hT
  go_enter Try.func66, Try.ntmps66
  go_wp2_with (first | (go_at_call 70; refine (C.out _).mono ?_; rintro e w' ⟨rfl, rfl⟩) | (go_at_call 84; refine (V.out _).mono ?_; rintro e w' ⟨rfl, hb⟩; obtain ⟨hc, hfz⟩ := bcell hb; have hb1 := ((Below.refl _ _).alloc (Nat.le_refl _) _).trans (hb.mono (by simp))) | (go_at_call 85; refine (B.out _ hb1).mono ?_; rintro e w2 ⟨rfl, R2, E2⟩))
  go_ret2
  exact ⟨_, rfl, R2.alloc _, E2.alloc _, eown_one (R2.new_none (Nat.le_refl _)) (scopeEff i)⟩

end
end Go.Proofs.Ytoonkidlbnndcaa
