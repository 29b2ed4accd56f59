/-
  A scope is over: (*scope).finish, where it is.
-/
import Derived.Test.YtoonkidlbnndcaaFinish
namespace Go.Proofs.Ytoonkidlbnndcaa
set_option linter.unusedVariables false
set_option linter.unusedSimpArgs false
open Go.RowKit

/-- The fault with which a scope ends. -/
def lastFlt (x : TaskA) (s : ScopeA) : Flt := if s.flt.kind = 0 ∧ x.flt.kind = 2 then x.flt else s.flt
/-- The tree in which scope i of task o is over. -/
def TreeA.finished (T : TreeA) (i o : Nat) (s : ScopeA) (x : TaskA) : TreeA :=
  { tasks := T.tasks.set o { x with opn := x.opn.dropLast, leaving := false, flt := .none }, scopes := T.scopes.set i { s with over := true } }
def leftEff (i o : Nat) (x : TaskA) (s : ScopeA) : EffA := ⟨3, (o : Int) + 1, (i : Int) + 1, lastFlt x s⟩

section
variable {κ : Kap} {L : Lay} {T : TreeA} {w w' : World}

theorem fin_over (R : Rep κ L T w) {i : Nat} {s : ScopeA} (hs : T.scopes[i]? = some s) :
    Rep κ L { T with scopes := T.scopes.set i { s with over := true } } (w.setCell ⟨L.sb i, 3, none⟩ (.bool true)) ∧ Ext κ κ w (w.setCell ⟨L.sb i, 3, none⟩ (.bool true)) := by
  refine ⟨R.setScope hs rfl (gb_at (gb_refl _ _) _ _) ?_, (Ext.refl κ w).setCell (by rw [R.kscope i s hs]; simp) _⟩
  rw [← scells_over]
  exact (R.scope i s hs).set_ 3 _

theorem fin_leaving (R : Rep κ L T w) {o : Nat} {x : TaskA} (hx : T.tasks[o]? = some x) :
    Rep κ L { T with tasks := T.tasks.set o { x with leaving := false, flt := .none } } (((w.setCell ⟨L.tb o, 3, none⟩ (.bool false)).setCell ⟨L.tb o, 5, none⟩ (.int .i64 0)).setCell ⟨L.tb o, 6, none⟩ (.string ⟨#[]⟩)) ∧
    Ext κ κ w (((w.setCell ⟨L.tb o, 3, none⟩ (.bool false)).setCell ⟨L.tb o, 5, none⟩ (.int .i64 0)).setCell ⟨L.tb o, 6, none⟩ (.string ⟨#[]⟩)) := by
  have hk := R.ktask o x hx
  refine ⟨R.setTask hx rfl (gb_at (gb_at (gb_at (gb_refl _ _) _ _) _ _) _ _) ?_, (((Ext.refl κ w).setCell (by rw [hk]; simp) _).setCell (by rw [hk]; simp) _).setCell (by rw [hk]; simp) _⟩
  have e : L.tcells o { x with leaving := false, flt := .none } = (((L.tcells o x).setIfInBounds 3 (.bool false)).setIfInBounds 5 (.int .i64 0)).setIfInBounds 6 (.string ⟨#[]⟩) := rfl
  rw [e]
  exact (((R.task o x hx).set_ 3 _).set_ 5 _).set_ 6 _

theorem pop_own {w : World} {L : Lay} {l : List Nat} {m g cap : Nat} (hown : w.ownsRow 0 109 1 (.slice (some ⟨g, 0, none⟩) (l.length + 1) cap) (l.length + 1) ((l ++ [m]).map L.sp)) :
    w.ownsRow 0 109 1 (.slice (some ⟨g, 0, none⟩) l.length cap) l.length (l.map L.sp) := by
  rcases hown.2 with ⟨h, _⟩ | ⟨g', cap', cur, he, hb, hh, h1, h2, h3, h4⟩
  · cases h
  · obtain ⟨rfl, rfl⟩ : g = g' ∧ cap = cap' := by injection he with e1 e2 e3; exact ⟨by injection e1 with e; injection e, e3⟩
    simp only [Nat.mul_one, List.map_append, List.map_singleton] at h1 h4
    refine ⟨by simp, .inr ⟨g, cap, cur, rfl, hb, hh, by omega, h2, h3, ?_⟩⟩
    have := congrArg (List.take l.length) h4
    rw [List.take_take, List.take_left' (by simp)] at this
    rw [Nat.mul_one]
    rw [← this]
    congr 1
    omega

/-- What comes behind the first store. -/
theorem fin_mem (R : Rep κ L T w) {i o : Nat} {x : TaskA} {l : List Nat} (hx : T.tasks[o]? = some x) (hl : x.opn = l ++ [i + 1]) {g cap : Nat} (hv : L.ov o = .slice (some ⟨g, 0, none⟩) (l.length + 1) cap) :
    ∃ κ' L', L'.t = L.t ∧ Rep κ' L' { T with tasks := T.tasks.set o { x with opn := x.opn.dropLast, leaving := false, flt := .none } } ((((w.setCell ⟨L.tb o, 2, none⟩ (.slice (some ⟨g, 0, none⟩) l.length cap)).setCell ⟨L.tb o, 3, none⟩ (.bool false)).setCell ⟨L.tb o, 5, none⟩ (.int .i64 0)).setCell ⟨L.tb o, 6, none⟩ (.string ⟨#[]⟩)) ∧
      Ext κ κ' w ((((w.setCell ⟨L.tb o, 2, none⟩ (.slice (some ⟨g, 0, none⟩) l.length cap)).setCell ⟨L.tb o, 3, none⟩ (.bool false)).setCell ⟨L.tb o, 5, none⟩ (.int .i64 0)).setCell ⟨L.tb o, 6, none⟩ (.string ⟨#[]⟩)) := by
  have hown := R.opn o x hx
  rw [hl, hv, List.length_append, List.length_singleton] at hown
  obtain ⟨κ2, R2, E2⟩ := opn_mem R (i := o) hx l (g := g) (cap := cap) (gb_refl _ _) (pop_own hown) (.inl (by rw [hv]; rfl))
  obtain ⟨R3, E3⟩ := fin_leaving R2 (o := o) (x := { x with opn := l }) (by
    have := (List.getElem?_eq_some_iff.1 hx).1
    simp [this])
  refine ⟨κ2, { L with ov := upd L.ov o (.slice (some ⟨g, 0, none⟩) l.length cap) }, rfl, ?_, E2.trans E3⟩
  have e : ({ T with tasks := T.tasks.set o { x with opn := x.opn.dropLast, leaving := false, flt := .none } } : TreeA) = { T with tasks := (T.tasks.set o { x with opn := l }).set o { x with opn := l, leaving := false, flt := .none } } := by
    rw [List.set_set, hl, List.dropLast_concat]
  rw [e]
  exact R3

theorem finish_tree {κ' : Kap} {L' : Lay} {T : TreeA} {W : World} {i o : Nat} {s : ScopeA} {x : TaskA} {l : List Nat}
    (R : Rep κ' L' { tasks := T.tasks.set o { x with opn := x.opn.dropLast, leaving := false, flt := .none }, scopes := T.scopes.set i { s with over := true } } W) (_ : x.opn = l ++ [i + 1]) : Rep κ' L' (T.finished i o s x) W := R

theorem finish_eff {κ' : Kap} {L' : Lay} {T' : TreeA} {W : World} (R : Rep κ' L' T' W) {i o : Nat} {s : ScopeA} {x : TaskA} {f : Flt} (h : lastFlt x s = f) (n : Nat) :
    EOwn κ' ((W.drewN n).alloc (.cells #[.int .i64 3, .int .i64 ((o : Int) + 1), .int .i64 ((i : Int) + 1), .int .i64 f.kind, .string f.text] 62)) (.slice (some ⟨W.heap.size, 0, none⟩) 1 1) [leftEff i o x s] := by
  refine ⟨?_, fun b hb => ?_⟩
  · have := World.ownsRow_lit (base := 0) (e := 62) (size := 5) (W.drewN n) #[.int .i64 3, .int .i64 ((o : Int) + 1), .int .i64 ((i : Int) + 1), .int .i64 f.kind, .string f.text] 1 (Nat.zero_le _) (by unfold maxLen; omega) rfl
    simpa [leftEff, EffA.cells, h] using this
  · have : b = W.heap.size := by simpa [Value.ownBlock] using hb.symm
    subst this
    exact R.new_none (Nat.le_refl _)

set_option maxHeartbeats 1000000 in
set_option maxRecDepth 100000 in
theorem finish_yes (R : Rep κ L T w) {i o : Nat} {s : ScopeA} {x : TaskA} (hs : T.scopes[i]? = some s) (ho : s.owner = o + 1) (hx : T.tasks[o]? = some x) (h : fin? x s i) :
    Calls Try.prog 86 #[.pointer (some ⟨L.sb i, 0, none⟩)] w fun e w' => ∃ v, e = .returned v ∧ ∃ κ' L', L'.t = L.t ∧ Rep κ' L' (T.finished i o s x) w' ∧ Ext κ κ' w w' ∧ EOwn κ' w' v [leftEff i o x s] ∧ Fresh w v := by
  obtain ⟨hlv, hlast, hlive⟩ := h
  obtain ⟨l, hl⟩ : ∃ l, x.opn = l ++ [i + 1] := by
    rw [List.getLast?_eq_some_iff] at hlast
    exact hlast
  obtain ⟨_, d1, _, _, _, d5, _⟩ := R.scells hs
  rw [ho, Lay.tp_succ] at d1
  obtain ⟨_, _, _, c3, _⟩ := R.tcells hx
  rw [hlv] at c3
  have hil := (List.getElem?_eq_some_iff.1 hs).1
  have C := inner_some R hx hl
  rw [Lay.sp_succ] at C
  have hS := R.scope i s hs
  have fs3 := hS.frozen 3
  have d3 : w.cell? ⟨L.sb i, 3, none⟩ = some (.bool s.over) := hS.cell 3 rfl
  have HQ : Hid (∀ k, (binOp .neq 109 (.pointer (some ⟨L.sb i, 0, none⟩)) (.pointer (some ⟨L.sb i, 0, none⟩))).run Try.prog (w.drewN k) = .ok (.bool false) (w.drewN k)) := fun k => by
    have := neq_scopes (R.drewN k) hil hil
    simpa using this
  have C := Lib.hid C
  have HR := Lib.hid R
  have Hs := Lib.hid hs
  have Hx := Lib.hid hx
  have Hl := Lib.hid hl
  clear R hs ho hx hlv hlast hl hil hS
  go_enter Try.func86, Try.ntmps86
  go_wp2_with (go_at_call 78; refine C.out.mono ?_; rintro e w' ⟨rfl, k, rfl⟩; have hq := HQ.out k)
  -- the scope is over
  obtain ⟨R1, E1⟩ := fin_over (HR.out.drewN k) Hs.out
  have HR1 := Lib.hid R1
  have HE1 := Lib.hid ((Ext.refl κ w).drewN k |>.trans E1)
  clear R1 E1 HR HQ d1 d5 c3 d3 fs3 hq C
  generalize (w.drewN k).setCell ⟨L.sb i, 3, none⟩ (.bool true) = W at HR1 HE1 ⊢
  have hs1 : ({ T with scopes := T.scopes.set i { s with over := true } } : TreeA).scopes[i]? = some { s with over := true } := by
    have := (List.getElem?_eq_some_iff.1 Hs.out).1
    simp [this]
  obtain ⟨d0, _, _, _, _, _, d6, d7⟩ := HR1.out.scells hs1
  obtain ⟨c0, _, c2, c3, _, c5, c6⟩ := HR1.out.tcells Hx.out
  have hX := HR1.out.task o x Hx.out
  have fx2 := hX.frozen 2
  have fx3 := hX.frozen 3
  have fx5 := hX.frozen 5
  have fx6 := hX.frozen 6
  have lx := hX.lt
  have ls := (HR1.out.scope i _ hs1).lt
  rcases owns_form (HR1.out.opn o x Hx.out) with ⟨_, h0, _⟩ | ⟨g, cap, hv, hcap, hm, _, _, _⟩
  · rw [Hl.out] at h0; simp at h0
  have FIN := fin_mem (i := i) HR1.out (by exact Hx.out) Hl.out (g := g) (cap := cap) (by rw [hv, Hl.out]; simp)
  rw [hv, Hl.out] at c2
  rw [Hl.out] at hcap
  simp only [List.length_append, List.length_singleton] at c2 hcap
  unfold maxLen at hm
  have e1 : IntKind.i64.wrap (((l.length + 1 : Nat) : Int) - 1) = (l.length : Int) := by rw [IntWalk.i64_in _ (by omega)]; omega
  have e2 : IntKind.i64.wrap ((l.length : Int) + 1 - 1) = (l.length : Int) := by rw [IntWalk.i64_in _ (by omega)]; omega
  have e3 : IntKind.i64.wrap (l.length : Int) = (l.length : Int) := by rw [IntWalk.i64_in _ (by omega)]
  have hmc : l.length ≤ cap := by omega
  have FIN := Lib.hid FIN
  clear hs1 hX hv
  generalize l.length = m at *
  by_cases h0 : s.flt.kind = 0
  · have b0 : (s.flt.kind == 0) = true := by simpa using h0
    by_cases h2 : x.flt.kind = 2
    · have b2 : (x.flt.kind == 2) = true := by simpa using h2
      have Hf := Lib.hid (show lastFlt x s = x.flt by unfold lastFlt; rw [if_pos ⟨h0, h2⟩])
      clear h0 h2
      go_still_tail 14, (by kernel_rfl)
      change wpList _ _ _ _ _ W.drew
      go_wp2
      obtain ⟨κ', L', ht, R3, E3⟩ := FIN.out
      have R4 := (R3.alloc (.cells #[.int .i64 x.flt.kind, .string x.flt.text] 29)).drew
      have E4 := ((E3.alloc (.cells #[.int .i64 x.flt.kind, .string x.flt.text] 29)).drewN 1)
      have hF := Blk.new ((((W.setCell ⟨L.tb o, 2, none⟩ (.slice (some ⟨g, 0, none⟩) m cap)).setCell ⟨L.tb o, 3, none⟩ (.bool false)).setCell ⟨L.tb o, 5, none⟩ (.int .i64 0)).setCell ⟨L.tb o, 6, none⟩ (.string ⟨#[]⟩)) 29 #[.int .i64 x.flt.kind, .string x.flt.text]
      have k0 : (((((((W.setCell ⟨L.tb o, 2, none⟩ (.slice (some ⟨g, 0, none⟩) m cap)).setCell ⟨L.tb o, 3, none⟩ (.bool false)).setCell ⟨L.tb o, 5, none⟩ (.int .i64 0)).setCell ⟨L.tb o, 6, none⟩ (.string ⟨#[]⟩)).alloc (.cells #[.int .i64 x.flt.kind, .string x.flt.text] 29)).drew)).cell? ⟨L.tb o, 0, none⟩ = some (.int .i64 ((o : Int) + 1)) := by go_simp
      have k1 : (((((((W.setCell ⟨L.tb o, 2, none⟩ (.slice (some ⟨g, 0, none⟩) m cap)).setCell ⟨L.tb o, 3, none⟩ (.bool false)).setCell ⟨L.tb o, 5, none⟩ (.int .i64 0)).setCell ⟨L.tb o, 6, none⟩ (.string ⟨#[]⟩)).alloc (.cells #[.int .i64 x.flt.kind, .string x.flt.text] 29)).drew)).cell? ⟨L.sb i, 0, none⟩ = some (.int .i64 ((i : Int) + 1)) := by go_simp
      rw [World.size_setCell, World.size_setCell, World.size_setCell, World.size_setCell] at hF
      have hF : Blk (((((((W.setCell ⟨L.tb o, 2, none⟩ (.slice (some ⟨g, 0, none⟩) m cap)).setCell ⟨L.tb o, 3, none⟩ (.bool false)).setCell ⟨L.tb o, 5, none⟩ (.int .i64 0)).setCell ⟨L.tb o, 6, none⟩ (.string ⟨#[]⟩)).alloc (.cells #[.int .i64 x.flt.kind, .string x.flt.text] 29)).drew)) W.heap.size 29 #[.int .i64 x.flt.kind, .string x.flt.text] := hF
      clear R3 E3 c0 c2 c3 c5 c6 d0 d6 d7 fx2 fx3 fx5 fx6 FIN
      have HR4 : Hid (Rep κ' L' (T.finished i o s x) (((((((W.setCell ⟨L.tb o, 2, none⟩ (.slice (some ⟨g, 0, none⟩) m cap)).setCell ⟨L.tb o, 3, none⟩ (.bool false)).setCell ⟨L.tb o, 5, none⟩ (.int .i64 0)).setCell ⟨L.tb o, 6, none⟩ (.string ⟨#[]⟩)).alloc (.cells #[.int .i64 x.flt.kind, .string x.flt.text] 29)).drew))) := R4
      have HE4 : Hid (Ext κ κ' w (((((((W.setCell ⟨L.tb o, 2, none⟩ (.slice (some ⟨g, 0, none⟩) m cap)).setCell ⟨L.tb o, 3, none⟩ (.bool false)).setCell ⟨L.tb o, 5, none⟩ (.int .i64 0)).setCell ⟨L.tb o, 6, none⟩ (.string ⟨#[]⟩)).alloc (.cells #[.int .i64 x.flt.kind, .string x.flt.text] 29)).drew))) := HE1.out.trans E4
      clear R4 E4 HE1 HR1
      generalize ((((((W.setCell ⟨L.tb o, 2, none⟩ (.slice (some ⟨g, 0, none⟩) m cap)).setCell ⟨L.tb o, 3, none⟩ (.bool false)).setCell ⟨L.tb o, 5, none⟩ (.int .i64 0)).setCell ⟨L.tb o, 6, none⟩ (.string ⟨#[]⟩)).alloc (.cells #[.int .i64 x.flt.kind, .string x.flt.text] 29)).drew) = W2 at HR4 HE4 k0 k1 hF ⊢
      have f0 := hF.cell 0 rfl
      have f1 := hF.cell 1 rfl
      clear hF
      go_still_tail 10, (by kernel_rfl)
      change wpList _ _ _ _ _ W2.drew
      go_wp2
      go_ret
      refine ⟨.slice (some ⟨W2.heap.size, 0, none⟩) 1 1, rfl, κ', L', ht, ?_, ?_, ?_, ?_⟩
      · exact (HR4.out.alloc _).drew
      · exact (HE4.out.alloc _).drewN 1
      · exact finish_eff HR4.out Hf.out 1
      · intro b hb; have hb : W2.heap.size = b := (by simpa [Value.ownBlock] using hb); subst hb; exact HE4.out.size
    · have b2 : (x.flt.kind == 2) = false := by simpa using h2
      have Hf := Lib.hid (show lastFlt x s = s.flt by unfold lastFlt; rw [if_neg (fun h => h2 h.2)])
      clear h0 h2
      go_still_tail 14, (by kernel_rfl)
      change wpList _ _ _ _ _ W.drew
      go_wp2
      obtain ⟨κ', L', ht, R3, E3⟩ := FIN.out
      have R4 := (R3.alloc (.cells #[.int .i64 s.flt.kind, .string s.flt.text] 29)).drew
      have E4 := ((E3.alloc (.cells #[.int .i64 s.flt.kind, .string s.flt.text] 29)).drewN 1)
      have hF := Blk.new ((((W.setCell ⟨L.tb o, 2, none⟩ (.slice (some ⟨g, 0, none⟩) m cap)).setCell ⟨L.tb o, 3, none⟩ (.bool false)).setCell ⟨L.tb o, 5, none⟩ (.int .i64 0)).setCell ⟨L.tb o, 6, none⟩ (.string ⟨#[]⟩)) 29 #[.int .i64 s.flt.kind, .string s.flt.text]
      have k0 : (((((((W.setCell ⟨L.tb o, 2, none⟩ (.slice (some ⟨g, 0, none⟩) m cap)).setCell ⟨L.tb o, 3, none⟩ (.bool false)).setCell ⟨L.tb o, 5, none⟩ (.int .i64 0)).setCell ⟨L.tb o, 6, none⟩ (.string ⟨#[]⟩)).alloc (.cells #[.int .i64 s.flt.kind, .string s.flt.text] 29)).drew)).cell? ⟨L.tb o, 0, none⟩ = some (.int .i64 ((o : Int) + 1)) := by go_simp
      have k1 : (((((((W.setCell ⟨L.tb o, 2, none⟩ (.slice (some ⟨g, 0, none⟩) m cap)).setCell ⟨L.tb o, 3, none⟩ (.bool false)).setCell ⟨L.tb o, 5, none⟩ (.int .i64 0)).setCell ⟨L.tb o, 6, none⟩ (.string ⟨#[]⟩)).alloc (.cells #[.int .i64 s.flt.kind, .string s.flt.text] 29)).drew)).cell? ⟨L.sb i, 0, none⟩ = some (.int .i64 ((i : Int) + 1)) := by go_simp
      rw [World.size_setCell, World.size_setCell, World.size_setCell, World.size_setCell] at hF
      have hF : Blk (((((((W.setCell ⟨L.tb o, 2, none⟩ (.slice (some ⟨g, 0, none⟩) m cap)).setCell ⟨L.tb o, 3, none⟩ (.bool false)).setCell ⟨L.tb o, 5, none⟩ (.int .i64 0)).setCell ⟨L.tb o, 6, none⟩ (.string ⟨#[]⟩)).alloc (.cells #[.int .i64 s.flt.kind, .string s.flt.text] 29)).drew)) W.heap.size 29 #[.int .i64 s.flt.kind, .string s.flt.text] := hF
      clear R3 E3 c0 c2 c3 c5 c6 d0 d6 d7 fx2 fx3 fx5 fx6 FIN
      have HR4 : Hid (Rep κ' L' (T.finished i o s x) (((((((W.setCell ⟨L.tb o, 2, none⟩ (.slice (some ⟨g, 0, none⟩) m cap)).setCell ⟨L.tb o, 3, none⟩ (.bool false)).setCell ⟨L.tb o, 5, none⟩ (.int .i64 0)).setCell ⟨L.tb o, 6, none⟩ (.string ⟨#[]⟩)).alloc (.cells #[.int .i64 s.flt.kind, .string s.flt.text] 29)).drew))) := R4
      have HE4 : Hid (Ext κ κ' w (((((((W.setCell ⟨L.tb o, 2, none⟩ (.slice (some ⟨g, 0, none⟩) m cap)).setCell ⟨L.tb o, 3, none⟩ (.bool false)).setCell ⟨L.tb o, 5, none⟩ (.int .i64 0)).setCell ⟨L.tb o, 6, none⟩ (.string ⟨#[]⟩)).alloc (.cells #[.int .i64 s.flt.kind, .string s.flt.text] 29)).drew))) := HE1.out.trans E4
      clear R4 E4 HE1 HR1
      generalize ((((((W.setCell ⟨L.tb o, 2, none⟩ (.slice (some ⟨g, 0, none⟩) m cap)).setCell ⟨L.tb o, 3, none⟩ (.bool false)).setCell ⟨L.tb o, 5, none⟩ (.int .i64 0)).setCell ⟨L.tb o, 6, none⟩ (.string ⟨#[]⟩)).alloc (.cells #[.int .i64 s.flt.kind, .string s.flt.text] 29)).drew) = W2 at HR4 HE4 k0 k1 hF ⊢
      have f0 := hF.cell 0 rfl
      have f1 := hF.cell 1 rfl
      clear hF
      go_still_tail 10, (by kernel_rfl)
      change wpList _ _ _ _ _ W2.drew
      go_wp2
      go_ret
      refine ⟨.slice (some ⟨W2.heap.size, 0, none⟩) 1 1, rfl, κ', L', ht, ?_, ?_, ?_, ?_⟩
      · exact (HR4.out.alloc _).drew
      · exact (HE4.out.alloc _).drewN 1
      · exact finish_eff HR4.out Hf.out 1
      · intro b hb; have hb : W2.heap.size = b := (by simpa [Value.ownBlock] using hb); subst hb; exact HE4.out.size
  · have b0 : (s.flt.kind == 0) = false := by simpa using h0
    have Hf := Lib.hid (show lastFlt x s = s.flt by unfold lastFlt; rw [if_neg (fun h => h0 h.1)])
    clear h0
    go_still_tail 14, (by kernel_rfl)
    change wpList _ _ _ _ _ W.drew
    go_wp2
    obtain ⟨κ', L', ht, R3, E3⟩ := FIN.out
    have R4 := (R3.alloc (.cells #[.int .i64 s.flt.kind, .string s.flt.text] 29)).drew
    have E4 := ((E3.alloc (.cells #[.int .i64 s.flt.kind, .string s.flt.text] 29)).drewN 1)
    have hF := Blk.new ((((W.setCell ⟨L.tb o, 2, none⟩ (.slice (some ⟨g, 0, none⟩) m cap)).setCell ⟨L.tb o, 3, none⟩ (.bool false)).setCell ⟨L.tb o, 5, none⟩ (.int .i64 0)).setCell ⟨L.tb o, 6, none⟩ (.string ⟨#[]⟩)) 29 #[.int .i64 s.flt.kind, .string s.flt.text]
    have k0 : (((((((W.setCell ⟨L.tb o, 2, none⟩ (.slice (some ⟨g, 0, none⟩) m cap)).setCell ⟨L.tb o, 3, none⟩ (.bool false)).setCell ⟨L.tb o, 5, none⟩ (.int .i64 0)).setCell ⟨L.tb o, 6, none⟩ (.string ⟨#[]⟩)).alloc (.cells #[.int .i64 s.flt.kind, .string s.flt.text] 29)).drew)).cell? ⟨L.tb o, 0, none⟩ = some (.int .i64 ((o : Int) + 1)) := by go_simp
    have k1 : (((((((W.setCell ⟨L.tb o, 2, none⟩ (.slice (some ⟨g, 0, none⟩) m cap)).setCell ⟨L.tb o, 3, none⟩ (.bool false)).setCell ⟨L.tb o, 5, none⟩ (.int .i64 0)).setCell ⟨L.tb o, 6, none⟩ (.string ⟨#[]⟩)).alloc (.cells #[.int .i64 s.flt.kind, .string s.flt.text] 29)).drew)).cell? ⟨L.sb i, 0, none⟩ = some (.int .i64 ((i : Int) + 1)) := by go_simp
    rw [World.size_setCell, World.size_setCell, World.size_setCell, World.size_setCell] at hF
    have hF : Blk (((((((W.setCell ⟨L.tb o, 2, none⟩ (.slice (some ⟨g, 0, none⟩) m cap)).setCell ⟨L.tb o, 3, none⟩ (.bool false)).setCell ⟨L.tb o, 5, none⟩ (.int .i64 0)).setCell ⟨L.tb o, 6, none⟩ (.string ⟨#[]⟩)).alloc (.cells #[.int .i64 s.flt.kind, .string s.flt.text] 29)).drew)) W.heap.size 29 #[.int .i64 s.flt.kind, .string s.flt.text] := hF
    clear R3 E3 c0 c2 c3 c5 c6 d0 d6 d7 fx2 fx3 fx5 fx6 FIN
    have HR4 : Hid (Rep κ' L' (T.finished i o s x) (((((((W.setCell ⟨L.tb o, 2, none⟩ (.slice (some ⟨g, 0, none⟩) m cap)).setCell ⟨L.tb o, 3, none⟩ (.bool false)).setCell ⟨L.tb o, 5, none⟩ (.int .i64 0)).setCell ⟨L.tb o, 6, none⟩ (.string ⟨#[]⟩)).alloc (.cells #[.int .i64 s.flt.kind, .string s.flt.text] 29)).drew))) := R4
    have HE4 : Hid (Ext κ κ' w (((((((W.setCell ⟨L.tb o, 2, none⟩ (.slice (some ⟨g, 0, none⟩) m cap)).setCell ⟨L.tb o, 3, none⟩ (.bool false)).setCell ⟨L.tb o, 5, none⟩ (.int .i64 0)).setCell ⟨L.tb o, 6, none⟩ (.string ⟨#[]⟩)).alloc (.cells #[.int .i64 s.flt.kind, .string s.flt.text] 29)).drew))) := HE1.out.trans E4
    clear R4 E4 HE1 HR1
    generalize ((((((W.setCell ⟨L.tb o, 2, none⟩ (.slice (some ⟨g, 0, none⟩) m cap)).setCell ⟨L.tb o, 3, none⟩ (.bool false)).setCell ⟨L.tb o, 5, none⟩ (.int .i64 0)).setCell ⟨L.tb o, 6, none⟩ (.string ⟨#[]⟩)).alloc (.cells #[.int .i64 s.flt.kind, .string s.flt.text] 29)).drew) = W2 at HR4 HE4 k0 k1 hF ⊢
    have f0 := hF.cell 0 rfl
    have f1 := hF.cell 1 rfl
    clear hF
    go_still_tail 10, (by kernel_rfl)
    change wpList _ _ _ _ _ W2.drew
    go_wp2
    go_ret
    refine ⟨.slice (some ⟨W2.heap.size, 0, none⟩) 1 1, rfl, κ', L', ht, ?_, ?_, ?_, ?_⟩
    · exact (HR4.out.alloc _).drew
    · exact (HE4.out.alloc _).drewN 1
    · exact finish_eff HR4.out Hf.out 1
    · intro b hb; have hb : W2.heap.size = b := (by simpa [Value.ownBlock] using hb); subst hb; exact HE4.out.size

def finB (x : TaskA) (s : ScopeA) (i : Nat) : Bool := x.leaving && (x.opn.getLast? == some (i + 1)) && decide (s.live ≤ 0)
def TreeA.fin (T : TreeA) (i o : Nat) (s : ScopeA) (x : TaskA) : TreeA := if finB x s i then T.finished i o s x else T
def finEffs (i o : Nat) (x : TaskA) (s : ScopeA) : List EffA := if finB x s i then [leftEff i o x s] else []

theorem fin_iff {x : TaskA} {s : ScopeA} {i : Nat} : finB x s i = true ↔ fin? x s i := by
  unfold finB fin?
  simp [Bool.and_eq_true, and_assoc]

theorem finish_any (R : Rep κ L T w) {i o : Nat} {s : ScopeA} {x : TaskA} (hs : T.scopes[i]? = some s) (ho : s.owner = o + 1) (hx : T.tasks[o]? = some x) (hle : ∀ n ∈ x.opn, n ≤ T.scopes.length) :
    Calls Try.prog 86 #[.pointer (some ⟨L.sb i, 0, none⟩)] w fun e w' => ∃ v, e = .returned v ∧ ∃ κ' L', L'.t = L.t ∧ Rep κ' L' (T.fin i o s x) w' ∧ Ext κ κ' w w' ∧ EOwn κ' w' v (finEffs i o x s) ∧ Fresh w v := by
  unfold TreeA.fin finEffs
  by_cases h : finB x s i = true
  · simp only [h, if_true]
    exact finish_yes R hs ho hx (fin_iff.1 h)
  · simp only [h, if_false, Bool.false_eq_true]
    refine (finish_no R hs ho hx hle (fun h' => h (fin_iff.2 h'))).mono ?_
    rintro e w' ⟨rfl, k, rfl⟩
    exact ⟨_, rfl, κ, L, rfl, R.drewN k, (Ext.refl κ w).drewN k, ⟨World.ownsRow_nil _ _ _ _, fun b hb => by cases hb⟩, fun b hb => by cases hb⟩

end
end Go.Proofs.Ytoonkidlbnndcaa
