/-
  The grove's methods with effects: Leave, End, Fail.
-/
import Derived.Test.YtoonkidlbnndcaaGOps
import Derived.Deep.RegionLaw
namespace Go.Proofs.Ytoonkidlbnndcaa
set_option linter.unusedVariables false
set_option linter.unusedSimpArgs false
open Go.RowKit

section
variable {K : Kap} {A : GAt} {G : GroveA} {w w' : World}

/-- What a method with effects leaves. -/
def GEff (K : Kap) (A : GAt) (w : World) (r : GroveA × List EffA × Int) (e : Ending) (w' : World) : Prop :=
  ∃ v, e = .returned (.tuple #[v, .int .i64 r.2.2]) ∧ ∃ K' A', A'.g = A.g ∧ GRep K' A' r.1 w' ∧ Ext K K' w w' ∧ EOwn K' w' v r.2.1 ∧ Fresh w v

/-- What the tree's method leaves of the grove, ahead of the strikes. -/
def GMid (K : Kap) (A : GAt) (w : World) (G' : GroveA) (es : List EffA) (v : Value) (w' : World) : Prop :=
  ∃ K' A', A'.g = A.g ∧ GRep K' A' G' w' ∧ Ext K K' w w' ∧ EOwn K' w' v es ∧ Fresh w v

theorem TEff.lift {W : World} (R : GRep K A G w) (hW : Below w.heap.size w W) {r : TreeA × List EffA × Int} {e : Ending} (h : TEff (K.on Tag.ofTree) A.L W r e w') : ∃ v, e = .returned (.tuple #[v, .int .i64 r.2.2]) ∧ GMid K A w (G.on r.1) r.2.1 v w' := by
  obtain ⟨v, he, κ', L', ht, R', E, EO, Fr⟩ := h
  have RW := R.below hW
  refine ⟨v, he, _, A.at L', rfl, RW.step ht R' E, (Ext.of_below hW).trans E.lift, ⟨EO.1, fun b hb => ?_⟩, fun b hb => Nat.le_trans hW.size (Fr b hb)⟩
  rw [Kap.join_ge (Fr b hb)]
  exact Kap.on_none (EO.2 b hb)

theorem GMid.turn {w2 : World} {G' : GroveA} {es : List EffA} {v : Value} {er : Int} (h : GMid K A w G' es v w2) (I : InvG G') (hE : EffsOk G'.tree es) :
    Calls Try.prog 63 #[.pointer (some ⟨A.g, 0, none⟩), v, .int .i64 er] w2 (GEff K A w ((G'.turn es).1, (G'.turn es).2, er)) := by
  obtain ⟨K', A', hA, R', E, EO, Fr⟩ := h
  rw [← hA]
  refine (gturned R' I.fit er EO hE.1 hE.2).mono ?_
  rintro e w3 ⟨v', he, R3, EO3, Fr3, E3⟩
  exact ⟨v', he, K', A', hA, R3, E.trans E3, EO3, fun b hb => Nat.le_trans E.size (Fr3 b hb)⟩

set_option maxRecDepth 100000 in
theorem gleave (R : GRep K A G w) (I : InvG G) (n : Int) (f : Flt) : Calls Try.prog 38 #[.pointer (some ⟨A.g, 0, none⟩), .int .i64 n, fltV f] w (GEff K A w (G.leaveG n f)) := by
  have C1 : Hid (∀ W, Below w.heap.size w W → Calls _ _ _ W _) := fun W hW => gtree_some (R.below hW)
  have C2 : Hid (∀ W, Below w.heap.size w W → Calls _ _ _ W _) := fun W hW => (tleave (R.below hW).rep I.inv n f).mono fun e w' h => h.lift R hW
  obtain ⟨h1, h2, h3⟩ := leaveR_ok (T := G.tree) n f
  have I1 := I.on (I.inv.leaveR n f) (by omega) (by omega)
  have GT : Hid (∀ w2 v, GMid K A w (G.on (G.tree.leaveR n f).1) (G.tree.leaveR n f).2.1 v w2 → Calls Try.prog 63 #[.pointer (some ⟨A.g, 0, none⟩), v, .int .i64 (G.tree.leaveR n f).2.2] w2 (GEff K A w (G.leaveG n f))) := fun w2 v h => h.turn I1 h3
  clear R I I1 h1 h2 h3
  generalize G.leaveG n f = q at *
  generalize G.tree.leaveR n f = r at *
  unfold fltV at C2 ⊢
  obtain ⟨fk, ft⟩ := f
  simp only at C2 ⊢
  go_enter Try.func38, Try.ntmps38
  go_wp2
  go_region_law (first | (go_simp; go_at_call 42; refine (C1.out _ (((Below.refl w.heap.size w).alloc (Nat.le_refl _) _).drew)).mono ?_; rintro e w' ⟨rfl, rfl⟩) | (go_simp; go_at_call 65; refine (C2.out _ (((Below.refl w.heap.size w).alloc (Nat.le_refl _) _).drew)).mono ?_; rintro e w2 ⟨v2, rfl, h2⟩; have h2 := Lib.hid h2) | (go_simp; go_at_call 63; refine (GT.out _ _ h2.out).mono ?_; rintro e w3 ⟨v3, rfl, h3⟩; have h3 := Lib.hid h3))
  all_goals
    go_wp2
    go_returns
    exact ⟨_, rfl, h3.out⟩

set_option maxRecDepth 100000 in
theorem gend (R : GRep K A G w) (I : InvG G) (n : Int) (f : Flt) : Calls Try.prog 37 #[.pointer (some ⟨A.g, 0, none⟩), .int .i64 n, fltV f] w (GEff K A w (G.endG n f)) := by
  have C1 : Hid (∀ W, Below w.heap.size w W → Calls _ _ _ W _) := fun W hW => gtree_some (R.below hW)
  have C2 : Hid (∀ W, Below w.heap.size w W → Calls _ _ _ W _) := fun W hW => (tend (R.below hW).rep I.inv n f).mono fun e w' h => h.lift R hW
  obtain ⟨h1, h2, h3⟩ := endR_ok (T := G.tree) n f
  have I1 := I.on (I.inv.endR n f) (by omega) (by omega)
  have GT : Hid (∀ w2 v, GMid K A w (G.on (G.tree.endR n f).1) (G.tree.endR n f).2.1 v w2 → Calls Try.prog 63 #[.pointer (some ⟨A.g, 0, none⟩), v, .int .i64 (G.tree.endR n f).2.2] w2 (GEff K A w (G.endG n f))) := fun w2 v h => h.turn I1 h3
  clear R I I1 h1 h2 h3
  generalize G.endG n f = q at *
  generalize G.tree.endR n f = r at *
  unfold fltV at C2 ⊢
  obtain ⟨fk, ft⟩ := f
  simp only at C2 ⊢
  go_enter Try.func37, Try.ntmps37
  go_wp2
  go_region_law (first | (go_simp; go_at_call 42; refine (C1.out _ (((Below.refl w.heap.size w).alloc (Nat.le_refl _) _).drew)).mono ?_; rintro e w' ⟨rfl, rfl⟩) | (go_simp; go_at_call 64; refine (C2.out _ (((Below.refl w.heap.size w).alloc (Nat.le_refl _) _).drew)).mono ?_; rintro e w2 ⟨v2, rfl, h2⟩; have h2 := Lib.hid h2) | (go_simp; go_at_call 63; refine (GT.out _ _ h2.out).mono ?_; rintro e w3 ⟨v3, rfl, h3⟩; have h3 := Lib.hid h3))
  all_goals
    go_wp2
    go_returns
    exact ⟨_, rfl, h3.out⟩

set_option maxRecDepth 100000 in
theorem gfail (R : GRep K A G w) (I : InvG G) (n : Int) (f : Flt) : Calls Try.prog 39 #[.pointer (some ⟨A.g, 0, none⟩), .int .i64 n, fltV f] w (GEff K A w (G.failG n f)) := by
  have C1 : Hid (∀ W, Below w.heap.size w W → Calls _ _ _ W _) := fun W hW => gtree_some (R.below hW)
  have C2 : Hid (∀ W, Below w.heap.size w W → Calls _ _ _ W _) := fun W hW => (tfail (R.below hW).rep n f).mono fun e w' h => h.lift R hW
  obtain ⟨h1, h2, h3⟩ := failR_ok (T := G.tree) n f
  have I1 := I.on (I.inv.failR n f) (by rw [h2]; omega) (by omega)
  have GT : Hid (∀ w2 v, GMid K A w (G.on (G.tree.failR n f).1) (G.tree.failR n f).2.1 v w2 → Calls Try.prog 63 #[.pointer (some ⟨A.g, 0, none⟩), v, .int .i64 (G.tree.failR n f).2.2] w2 (GEff K A w (G.failG n f))) := fun w2 v h => h.turn I1 h3
  clear R I I1 h1 h2 h3
  generalize G.failG n f = q at *
  generalize G.tree.failR n f = r at *
  unfold fltV at C2 ⊢
  obtain ⟨fk, ft⟩ := f
  simp only at C2 ⊢
  go_enter Try.func39, Try.ntmps39
  go_wp2
  go_region_law (first | (go_simp; go_at_call 42; refine (C1.out _ (((Below.refl w.heap.size w).alloc (Nat.le_refl _) _).drew)).mono ?_; rintro e w' ⟨rfl, rfl⟩) | (go_simp; go_at_call 66; refine (C2.out _ (((Below.refl w.heap.size w).alloc (Nat.le_refl _) _).drew)).mono ?_; rintro e w2 ⟨v2, rfl, h2⟩; have h2 := Lib.hid h2) | (go_simp; go_at_call 63; refine (GT.out _ _ h2.out).mono ?_; rintro e w3 ⟨v3, rfl, h3⟩; have h3 := Lib.hid h3))
  all_goals
    go_wp2
    go_returns
    exact ⟨_, rfl, h3.out⟩

end
end Go.Proofs.Ytoonkidlbnndcaa
