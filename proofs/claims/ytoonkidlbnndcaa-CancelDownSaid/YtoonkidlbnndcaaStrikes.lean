/-
  (*Grove).strikes.
-/
import Derived.Test.YtoonkidlbnndcaaStrike0
namespace Go.Proofs.Ytoonkidlbnndcaa
set_option linter.unusedVariables false
set_option linter.unusedSimpArgs false
open Go.RowKit

/-- append of all of a slice that somebody owns to a slice that the program owns, in a region that draws its order. -/
theorem step_extend {P : Program} {w : World} {ops : Array Oper} {o : Oper} {a : Act} {K : Act → World → Prop} {Q : Exit → Act → World → Prop} {E : Prop} (hgd : o.guard = none) (s x : Operand) (t : TypeId)
    (ho : o.op = .call { callee := .builtin .append, args := #[s, x], argTypes := #[t, t] })
    (e : TypeId) (size bytes : Nat) (z : Value) (hinfo : (P.info? e).map (fun i => (i.zero, i.size, i.bytes)) = some (some z, size, bytes)) (hzs : z.cells.size = size) (hsz : 0 < size) (hby : bytes ≤ 64) (ht : P.underlying t = some (.slice e))
    (v : Value) (n : Nat) (xs : List Value) (hs : a.eval s = v) (hown : w.ownsRow 0 e size v n xs)
    (v2 : Value) (m : Nat) (ys : List Value) (hx : a.eval x = v2) (hown2 : w.ownsRow 0 e size v2 m ys) (h1 : ∀ u ∈ ys, u.oneCell' = true) (hn : n + m ≤ 1000000)
    (h : ∀ v' w', w'.ownsRow 0 e size v' (n + m) (xs ++ ys) → w.grownBy w' v.ownBlock → (v'.ownBlock = v.ownBlock ∨ v'.ownBlock = some w.heap.size) → K (a.put o.dst v') w') :
    if Region.wanted o (yielded ops a.tmps) = true then Oper.wp P o a w K Q else E := by
  obtain ⟨i, hi, hz0, hz1, hz2⟩ := info_parts hinfo
  have hw : Region.wanted o (yielded ops a.tmps) = true := by simp [Region.wanted, hgd]
  rw [if_pos hw]
  have hown2' := hown2
  rcases hown2.2 with ⟨rfl, rfl⟩ | ⟨g, cap, cur, rfl, _, hg, hnc, hm, _⟩
  · have hy : ys = [] := List.eq_nil_of_length_eq_zero (by simpa using hown2.1)
    subst hy
    have hr := run_append_nothing (P := P) (w := w) t o.type e i size ht hi v n xs hown 0
    unfold Oper.wp execOp
    simp only [ho, resolve, invoke, builtin, Sem.run_bind, Sem.run_pure, Result.andThen_ok, List.map_toArray, List.map_cons, List.map_nil, hs, hx, hr]
    exact h v w (by simpa using hown) (World.grownBy.refl w _) (.inl rfl)
  · obtain ⟨v', w', hr, h2, h3, _, h5⟩ := run_append_own_at (P := P) w 0 t o.type e i z size bytes ht hi hz0 hz1 hz2 hzs hsz v n xs hown ⟨g, 0, none⟩ m cap ys hown2.1 (hown2'.cells (g := g) rfl) h1 (by unfold maxLen; omega) (by
      have : (n + m) * bytes ≤ 1000000 * 64 := Nat.mul_le_mul hn hby
      omega) (Nat.zero_le _)
    unfold Oper.wp execOp
    simp only [ho, resolve, invoke, builtin, Sem.run_bind, Sem.run_pure, Result.andThen_ok, List.map_toArray, List.map_cons, List.map_nil, hs, hx, hr]
    exact h v' w' h2 h3 h5

theorem owns_pos {w : World} {e size n : Nat} {v : Value} {xs : List Value} (h : w.ownsRow 0 e size v n xs) (hn : 0 < n) : ∃ g cap, v = .slice (some ⟨g, 0, none⟩) n cap := by
  rcases h.2 with ⟨_, h⟩ | ⟨g, cap, _, h, _⟩
  · omega
  · exact ⟨g, cap, h⟩

theorem int_one (ns : List Nat) : ∀ u ∈ ns.map intCell, u.oneCell' = true := by
  intro u hu
  obtain ⟨x, _, rfl⟩ := List.mem_map.1 hu
  rfl

section
variable {K : Kap} {A : GAt} {G : GroveA} {w w' : World}

/-- The tasks that a strike of scope i asks: its owner, and all below. -/
def TreeA.reach (T : TreeA) (i : Nat) : List Nat := (T.scopes[i]?.map ScopeA.owner).getD 0 :: belowN T (T.scopes.length + 1) i

def GPost (K : Kap) (A : GAt) (w : World) (G' : GroveA) (es : List EffA) (e : Ending) (w' : World) : Prop :=
  ∃ v, e = .returned v ∧ GRep K A G' w' ∧ EOwn K w' v es ∧ Fresh w v ∧ Ext K K w w'

theorem GRep.gone (R : GRep K A G w) {b : Nat} (h : w.heap.size ≤ b) : K b = none := by
  rcases e : K b with _ | t
  · rfl
  · have := R.lt b t e; omega

/-- The list that is struck was new. -/
theorem StrikePost.out {W : World} {gb : Nat} {G' : GroveA} {es : List EffA} {e : Ending} (h : StrikePost K A W gb G' es e w') (hb : Below w.heap.size w W) (hK : ∀ b t, K b = some t → b < w.heap.size) (hg : w.heap.size ≤ gb) : GPost K A w G' es e w' := by
  obtain ⟨v, he, R, EO, Fr, E⟩ := h
  refine ⟨v, he, R, ⟨EO.1, fun b hb' => ?_⟩, fun b hb' => Nat.le_trans hb.size (Fr b hb'), ?_⟩
  · have := EO.2 b hb'
    by_cases e : b = gb
    · subst e; rw [Kap.set_same] at this; cases this
    · rw [Kap.set_other _ _ e] at this; exact this
  · have hset : ∀ b, b < w.heap.size → K.set gb .due b = K b := fun b hb' => Kap.set_other _ _ (by omega)
    refine ⟨E.os.trans hb.os, E.tape.trans hb.tape, E.output.trans hb.output, Nat.le_trans hb.size E.size, fun b hb' hn => ?_, fun _ _ => rfl⟩
    exact (E.keep b (Nat.lt_of_lt_of_le hb' hb.size) ((hset b hb').trans hn)).trans (hb.block b hb')

set_option maxRecDepth 100000 in
set_option maxHeartbeats 2000000 in
theorem gstrikes (R : GRep K A G w) (F : FitG G) {i : Nat} (hi : i < G.tree.scopes.length) :
    Calls Try.prog 53 #[.pointer (some ⟨A.g, 0, none⟩), .int .i64 ((i : Int) + 1)] w (GPost K A w (G.strikeG true ((i : Int) + 1)) (G.strikeE true ((i : Int) + 1) (G.tree.reach i))) := by
  obtain ⟨c0, c1, c2, c3⟩ := R.gcells
  have lg := R.grove.lt
  obtain ⟨s, hs⟩ : ∃ s, G.tree.scopes[i]? = some s := ⟨_, List.getElem?_eq_getElem hi⟩
  obtain ⟨o, y, ho, hy, _⟩ := F.tree.down.own i s hs
  have hsc : G.tree.scope? ((i : Int) + 1) = some i := by
    unfold TreeA.scope?
    rw [if_pos (by omega)]
    congr 1
  have CS := Lib.hid (scopeT_ok R.rep hsc hs ho hy (fun m hm => ⟨(F.tree.down.kid i s hs m hm).1, (F.tree.down.kid i s hs m hm).2.1⟩) (F.tree.kids i s hs))
  have CB : Hid (∀ W, Below w.heap.size w W → Calls _ _ _ W _) := fun W hW => belowT_ok (R.below hW).rep F.tree.down (fun j x hx => (F.tree.opn j x hx).2) F.tree.kids hsc (F.tree.below i)
  have hrl : (belowN G.tree (G.tree.scopes.length + 1) i).length ≤ 100000 := F.tree.below i
  have hreach : G.tree.reach i = s.owner :: belowN G.tree (G.tree.scopes.length + 1) i := by unfold TreeA.reach; rw [hs]; rfl
  have Hreach := Lib.hid hreach
  have hi2 : i ≤ 200 := by have := F.tree.scopes; omega
  have STR : Hid (∀ (W : World) (gb cap : Nat), Below w.heap.size w W → w.heap.size ≤ gb → W.ownsRow 0 3 1 (.slice (some ⟨gb, 0, none⟩) (1 + (belowN G.tree (G.tree.scopes.length + 1) i).length) cap) (1 + (belowN G.tree (G.tree.scopes.length + 1) i).length) ((s.owner :: belowN G.tree (G.tree.scopes.length + 1) i).map intCell) →
      Calls Try.prog 55 #[.pointer (some ⟨A.g, 0, none⟩), .map (some A.ms), .int .i64 ((i : Int) + 1), .slice (some ⟨gb, 0, none⟩) (1 + (belowN G.tree (G.tree.scopes.length + 1) i).length) cap] W (GPost K A w (G.strikeG true ((i : Int) + 1)) (G.strikeE true ((i : Int) + 1) (G.tree.reach i)))) := fun W gb cap hb hg hrow => by
    have hgb : K gb = none := R.gone hg
    have e1 : 1 + (belowN G.tree (G.tree.scopes.length + 1) i).length = (s.owner :: belowN G.tree (G.tree.scopes.length + 1) i).length := by simp; omega
    rw [hreach]
    rw [e1] at hrow ⊢
    exact (gstrike (R.below hb) F true ((i : Int) + 1) (by omega) (by omega) hgb hrow (by simp; omega)).mono fun e w' h => h.out hb R.lt hg
  have HR := Lib.hid R
  have HF := Lib.hid F
  clear R F hs hy ho hsc hreach
  generalize belowN G.tree (G.tree.scopes.length + 1) i = bl at *
  generalize s.owner = ow at *
  go_enter Try.func53, Try.ntmps53
  go_wp2_with (first | (go_at_call 68; refine CS.out.mono ?_; rintro e w1 ⟨v1, rfl, hv1, _, hb1⟩; obtain ⟨a1, q1, rfl⟩ := owns_shape hv1; clear hv1; have hz1 := hb1.size; have lg1 : A.g < w1.heap.size := Nat.lt_of_lt_of_le lg hz1; have d0 := (hb1.cell (p := ⟨A.g, 0, none⟩) lg).trans c0; have d2 := (hb1.cell (p := ⟨A.g, 2, none⟩) lg).trans c2; have hb1 := Lib.hid hb1) | (go_at_call 44; refine (CB.out _ (hb1.out.trans ((Below.refl w.heap.size w1).alloc hz1 _))).mono ?_; rintro e w2 ⟨v2, rfl, hv2, hfr2, hb2⟩; obtain ⟨a2, q2, rfl⟩ := owns_shape hv2; have hz2 := hb2.size; simp only [World.size_alloc] at hz2; have e2 := (hb2.cell (p := ⟨A.g, 2, none⟩) (by simp; omega)).trans ((World.cell?_alloc_lt _ _ _ lg1).trans d2); have hv2 := Lib.hid hv2; have hb2 := Lib.hid hb2; have hfr2 := Lib.hid hfr2))
  have e5 : w2.cell? ⟨w1.heap.size, 0, none⟩ = some (.int .i64 (ow : Int)) := (hb2.out.cell (p := ⟨w1.heap.size, 0, none⟩) (by simp)).trans ((Blk.new w1 76 _).cell 0 rfl)
  have Hb02 : Hid (Below w.heap.size w w2) := (hb1.out.alloc hz1 _).trans (hb2.out.mono (by simp; omega))
  have lg2 : A.g < w2.heap.size := by omega
  have Hv2 : Hid (w2.drew.ownsRow 0 3 1 (.slice a2 bl.length q2) bl.length (bl.map intCell)) := hv2.out
  have Hv1 : Hid ((w2.drew.alloc (.cells #[.int .i64 (ow : Int)] 3)).ownsRow 0 3 1 (.slice (some ⟨w2.heap.size, 0, none⟩) 1 1) 1 [.int .i64 (ow : Int)]) := World.ownsRow_lit (base := 0) (e := 3) (size := 1) w2.drew #[.int .i64 (ow : Int)] 1 (Nat.zero_le _) (by unfold maxLen; omega) rfl
  have HGr : Hid (Blk w2.drew A.g 88 #[.pointer (some ⟨A.L.t, 0, none⟩), .map (some A.mt), .map (some A.ms), A.dv]) := HR.out.grove.of (Hb02.out.block _ lg)
  have BW : Hid (∀ w6, (w2.drew.alloc (.cells #[.int .i64 (ow : Int)] 3)).grownBy w6 (some w2.heap.size) → Below w.heap.size w w6) := fun w6 hg => by
    have h1 : Below w.heap.size w (w2.drew.alloc (.cells #[.int .i64 (ow : Int)] 3)) := Hb02.out.trans (((Below.refl w.heap.size w2).drew).alloc (by show _ ≤ w2.heap.size; omega) _)
    exact h1.grown hg (by show _ ≤ _; simp; omega) (fun b hb => by cases hb; omega)
  have HB6 : Hid (∀ x, (some x = (Value.slice (some ⟨w2.heap.size, 0, none⟩) 1 1).ownBlock ∨ some x = some (w2.drew.alloc (.cells #[.int .i64 (ow : Int)] 3)).heap.size) → w.heap.size ≤ x) := fun x h => by
    have hs := Hb02.out.size
    rcases h with h | h
    · have : x = w2.heap.size := Option.some.inj h
      omega
    · have : x = w2.heap.size + 1 := (Option.some.inj h).trans (World.size_alloc _ _)
      omega
  have Hne6 : Hid ((Value.slice (some ⟨w2.heap.size, 0, none⟩) 1 1).ownBlock ≠ some A.g) := fun e => by
    have : w2.heap.size = A.g := Option.some.inj e
    omega
  clear c0 c1 c2 c3 d0 d2 hv2
  go_region_law (first | (refine step_extend rfl (.tmp 35) (.tmp 36) 26 rfl 3 1 8 _ Try.infoInt rfl (by omega) (by omega) Try.underlying26 _ 1 _ rfl Hv1.out _ bl.length _ rfl (Hv2.out.alloc _) (int_one bl) (by omega) ?_; intro v6 w6 hown6 hgrow6 hat6; obtain ⟨g6, k6, rfl⟩ := owns_pos hown6 (by omega); have hW6 := Lib.hid (BW.out w6 hgrow6); have hg6 : w.heap.size ≤ g6 := HB6.out g6 hat6; have e6 : w6.cell? ⟨A.g, 2, none⟩ = some (.map (some A.ms)) := ((HGr.out.alloc (.cells #[.int .i64 (ow : Int)] 3)).grown hgrow6 Hne6.out).cell 2 rfl; have hown6 := Lib.hid hown6; have hgrow6 := Lib.hid hgrow6; have hat6 := Lib.hid hat6) | (go_simp; go_at_call 55; refine (STR.out _ _ _ hW6.out hg6 hown6.out).mono ?_; rintro e w7 ⟨v7, rfl, h7⟩; have h7 := Lib.hid h7))
  all_goals
    go_wp2
    go_returns
    exact ⟨_, rfl, h7.out⟩

end
end Go.Proofs.Ytoonkidlbnndcaa
