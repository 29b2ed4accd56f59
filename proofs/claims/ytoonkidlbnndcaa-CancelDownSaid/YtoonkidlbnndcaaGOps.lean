/-
  The grove's methods that have no effects.
-/
import Derived.Test.YtoonkidlbnndcaaGInv
namespace Go.Proofs.Ytoonkidlbnndcaa
set_option linter.unusedVariables false
set_option linter.unusedSimpArgs false
open Go.RowKit

section
variable {K : Kap} {A : GAt} {G : GroveA} {w w' : World}

def GDone (K : Kap) (A : GAt) (w : World) (G' : GroveA) (w' : World) : Prop := ∃ K' A', A'.g = A.g ∧ GRep K' A' G' w' ∧ Ext K K' w w'

theorem GDone.same (R : GRep K A G w) : GDone K A w G w := ⟨K, A, rfl, R, Ext.refl _ _⟩
theorem GDone.below (R : GRep K A G w) (h : Below w.heap.size w w') : GDone K A w G w' := ⟨K, A, rfl, R.below h, Ext.of_below h⟩
theorem TDone.lift (R : GRep K A G w) {T' : TreeA} (h : TDone (K.on Tag.ofTree) A.L w T' w') : GDone K A w (G.on T') w' := by
  obtain ⟨κ', L', ht, R', E⟩ := h
  exact ⟨_, A.at L', rfl, R.step ht R' E, E.lift⟩

set_option maxRecDepth 100000 in
theorem groot (R : GRep K A G w) (I : InvG G) : Calls Try.prog 40 #[.pointer (some ⟨A.g, 0, none⟩)] w fun e w' =>
    e = .returned (.tuple #[.int .i64 G.tree.rootR.2.1, .int .i64 G.tree.rootR.2.2]) ∧ GDone K A w (G.on G.tree.rootR.1) w' := by
  have C1 := Lib.hid (gtree_some R)
  have C2 := Lib.hid ((troot R.rep I.inv).mono fun e w' ⟨h1, h2⟩ => (⟨h1, h2.lift R⟩ : _ ∧ GDone K A w (G.on G.tree.rootR.1) w'))
  clear R I
  generalize G.tree.rootR = r at *
  obtain ⟨T', a, b⟩ := r
  go_enter Try.func40, Try.ntmps40
  go_wp2_with (first | (go_at_call 42; refine C1.out.mono ?_; rintro e w' ⟨rfl, rfl⟩) | (go_at_call 67; refine C2.out.mono ?_; rintro e w1 ⟨rfl, h⟩; have h := Lib.hid h))
  go_returns
  exact ⟨rfl, h.out⟩

set_option maxRecDepth 100000 in
theorem gspawn (R : GRep K A G w) (I : InvG G) (n : Int) : Calls Try.prog 36 #[.pointer (some ⟨A.g, 0, none⟩), .int .i64 n] w fun e w' =>
    e = .returned (.tuple #[.int .i64 (G.tree.spawnR n).2.1, .int .i64 (G.tree.spawnR n).2.2]) ∧ GDone K A w (G.on (G.tree.spawnR n).1) w' := by
  have C1 := Lib.hid (gtree_some R)
  have C2 := Lib.hid ((tspawn R.rep I.inv n).mono fun e w' ⟨h1, h2⟩ => (⟨h1, h2.lift R⟩ : _ ∧ GDone K A w (G.on (G.tree.spawnR n).1) w'))
  clear R I
  generalize G.tree.spawnR n = r at *
  obtain ⟨T', a, b⟩ := r
  go_enter Try.func36, Try.ntmps36
  go_wp2_with (first | (go_at_call 42; refine C1.out.mono ?_; rintro e w' ⟨rfl, rfl⟩) | (go_at_call 62; refine C2.out.mono ?_; rintro e w1 ⟨rfl, h⟩; have h := Lib.hid h))
  go_returns
  exact ⟨rfl, h.out⟩

set_option maxRecDepth 100000 in
theorem gshield (R : GRep K A G w) (I : InvG G) (n : Int) : Calls Try.prog 24 #[.pointer (some ⟨A.g, 0, none⟩), .int .i64 n] w fun e w' =>
    e = .returned (.int .i64 (G.tree.shieldR n).2) ∧ GDone K A w (G.on (G.tree.shieldR n).1) w' := by
  have C1 := Lib.hid (gtree_some R)
  have C2 := Lib.hid ((tshield R.rep I.inv n).mono fun e w' ⟨h1, h2⟩ => (⟨h1, h2.lift R⟩ : _ ∧ GDone K A w (G.on (G.tree.shieldR n).1) w'))
  clear R I
  generalize G.tree.shieldR n = r at *
  obtain ⟨T', a⟩ := r
  go_enter Try.func24, Try.ntmps24
  go_wp2_with (first | (go_at_call 42; refine C1.out.mono ?_; rintro e w' ⟨rfl, rfl⟩) | (go_at_call 48; refine C2.out.mono ?_; rintro e w1 ⟨rfl, h⟩; have h := Lib.hid h))
  go_returns
  exact ⟨rfl, h.out⟩

set_option maxRecDepth 100000 in
theorem gunveil (R : GRep K A G w) (I : InvG G) (n : Int) : Calls Try.prog 25 #[.pointer (some ⟨A.g, 0, none⟩), .int .i64 n] w fun e w' =>
    e = .returned (.int .i64 (G.tree.unveilR n).2) ∧ GDone K A w (G.on (G.tree.unveilR n).1) w' := by
  have C1 := Lib.hid (gtree_some R)
  have C2 := Lib.hid ((tunveil R.rep I.inv n).mono fun e w' ⟨h1, h2⟩ => (⟨h1, h2.lift R⟩ : _ ∧ GDone K A w (G.on (G.tree.unveilR n).1) w'))
  clear R I
  generalize G.tree.unveilR n = r at *
  obtain ⟨T', a⟩ := r
  go_enter Try.func25, Try.ntmps25
  go_wp2_with (first | (go_at_call 42; refine C1.out.mono ?_; rintro e w' ⟨rfl, rfl⟩) | (go_at_call 49; refine C2.out.mono ?_; rintro e w1 ⟨rfl, h⟩; have h := Lib.hid h))
  go_returns
  exact ⟨rfl, h.out⟩

/-- A deadline more. -/
theorem gpush (R : GRep K A G w) (F : FitG G) (a b : Int) : Calls Try.prog 61 #[.iface 94 (.pointer (some ⟨A.g, 3, none⟩)), .iface 92 (.agg #[.int .i64 a, .int .i64 b])] w fun e w' =>
    (∃ v, e = .returned v) ∧ GDone K A w { G with dues := insD (a, b) G.dues } w' := by
  obtain ⟨arr, D, hp, ho⟩ := R.drep
  have hl := F.dues_len
  refine (hpush_any (κ := K.on Tag.ofDues) D (a, b) (by rw [hp.length_eq]; omega) (fun b t h => R.lt b t (Kap.on_some h).1) (Kap.on_mk R.kg rfl) (fun b hb => Kap.on_mk (R.kd b hb) rfl) ho).mono ?_
  rintro e w' ⟨he, κ', dv', arr', D', hp', ho', E', hl', hd'⟩
  exact ⟨he, _, { A with dv := dv' }, rfl, R.duesStep E' hl' D'.blk D'.row (hp'.trans ((hp.cons (a, b)).trans (insD_perm (a, b) G.dues).symm)) ho' hd', E'.lift⟩

set_option maxRecDepth 100000 in
theorem gopen (R : GRep K A G w) (I : InvG G) (n : Int) (b : Bool) (m : Int) : Calls Try.prog 35 #[.pointer (some ⟨A.g, 0, none⟩), .int .i64 n, .bool b, .int .i64 m] w fun e w' =>
    e = .returned (.tuple #[.int .i64 (G.openG n b m).2.1, .int .i64 (G.openG n b m).2.2]) ∧ GDone K A w (G.openG n b m).1 w' := by
  have C1 := Lib.hid (gtree_some R)
  have C2 := Lib.hid ((topen R.rep I.inv n b).mono fun e w' ⟨h1, h2⟩ => (⟨h1, h2.lift R⟩ : _ ∧ GDone K A w (G.on (G.tree.openR n b).1) w'))
  obtain ⟨h1, h2, h3⟩ := openR_ok (T := G.tree) n b
  have I1 := Lib.hid (I.on (I.inv.openR n b) (by omega) h2)
  clear R I h1 h2 h3
  have hG : Hid (G.openG n b m = ((if (G.tree.openR n b).2.2 = 0 ∧ 0 ≤ m ∧ m ≤ 1000000000000 then { G with tree := (G.tree.openR n b).1, dues := insD (m, (G.tree.openR n b).2.1) G.dues } else G.on (G.tree.openR n b).1), (G.tree.openR n b).2.1, (G.tree.openR n b).2.2)) := rfl
  generalize G.tree.openR n b = r at *
  obtain ⟨T', s, er⟩ := r
  generalize G.openG n b m = q at *
  have HG := hG.out
  subst HG
  simp only at C2 I1 ⊢
  clear hG
  by_cases hc : er = 0 ∧ 0 ≤ m ∧ m ≤ 1000000000000
  · rw [if_pos hc]
    obtain ⟨rfl, hm0, hm1⟩ := hc
    go_enter Try.func35, Try.ntmps35
    go_wp2_with (first | (go_at_call 42; refine C1.out.mono ?_; rintro e w' ⟨rfl, rfl⟩) | (go_at_call 60; refine C2.out.mono ?_; rintro e w1 ⟨rfl, K1, A1, hA1, R1, E1⟩; have hP := Lib.hid (gpush R1 I1.out.fit m s); rw [hA1] at hP; have hA1 := Lib.hid hA1; have R1 := Lib.hid R1; have E1 := Lib.hid E1) | (go_at_call 61; refine hP.out.mono ?_; rintro e w2 ⟨⟨v, rfl⟩, K2, A2, hA2, R2, E2⟩; have hA2 := Lib.hid hA2; have R2 := Lib.hid R2; have E2 := Lib.hid E2))
    go_returns
    exact ⟨rfl, K2, A2, hA2.out.trans hA1.out, R2.out, E1.out.trans E2.out⟩
  · rw [if_neg hc]
    by_cases he : er = 0
    · subst he
      by_cases hm0 : 0 ≤ m
      · have hm1 : 1000000000000 < m := by omega
        clear hc
        go_enter Try.func35, Try.ntmps35
        go_wp2_with (first | (go_at_call 42; refine C1.out.mono ?_; rintro e w' ⟨rfl, rfl⟩) | (go_at_call 60; refine C2.out.mono ?_; rintro e w1 ⟨rfl, h⟩; have h := Lib.hid h))
        go_returns
        exact ⟨rfl, h.out⟩
      · have hm1 : m < 0 := by omega
        clear hc
        go_enter Try.func35, Try.ntmps35
        go_wp2_with (first | (go_at_call 42; refine C1.out.mono ?_; rintro e w' ⟨rfl, rfl⟩) | (go_at_call 60; refine C2.out.mono ?_; rintro e w1 ⟨rfl, h⟩; have h := Lib.hid h))
        go_returns
        exact ⟨rfl, h.out⟩
    · have he0 : (er == 0) = false := by simpa using he
      clear hc
      go_enter Try.func35, Try.ntmps35
      go_wp2_with (first | (go_at_call 42; refine C1.out.mono ?_; rintro e w' ⟨rfl, rfl⟩) | (go_at_call 60; refine C2.out.mono ?_; rintro e w1 ⟨rfl, h⟩; have h := Lib.hid h))
      go_returns
      exact ⟨rfl, h.out⟩

end
end Go.Proofs.Ytoonkidlbnndcaa
