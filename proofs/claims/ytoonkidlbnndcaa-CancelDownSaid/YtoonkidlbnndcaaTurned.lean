/-
  (*Grove).turned.
-/
import Derived.Test.YtoonkidlbnndcaaStrikes
namespace Go.Proofs.Ytoonkidlbnndcaa
set_option linter.unusedVariables false
set_option linter.unusedSimpArgs false
open Go.RowKit

/-- A tree's effects with the scopes struck: the grove behind them, and the effects. -/
def GroveA.turn : GroveA → List EffA → GroveA × List EffA
  | G, [] => (G, [])
  | G, e :: l =>
    if e.kind = 1 then (((G.strikeG true e.n).turn l).1, G.strikeE true e.n (G.tree.reach (e.n.toNat - 1)) ++ ((G.strikeG true e.n).turn l).2)
    else ((G.turn l).1, e :: (G.turn l).2)

theorem eff_get : ∀ (es : List EffA) (k : Nat) (e : EffA), es[k]? = some e → (es.flatMap EffA.cells)[k * 5]? = some (.int .i64 e.kind) ∧ (es.flatMap EffA.cells)[k * 5 + 1]? = some (.int .i64 e.n) ∧
    (es.flatMap EffA.cells)[k * 5 + 2]? = some (.int .i64 e.m) ∧ (es.flatMap EffA.cells)[k * 5 + 3]? = some (.int .i64 e.flt.kind) ∧ (es.flatMap EffA.cells)[k * 5 + 4]? = some (.string e.flt.text)
  | [], k, e, h => by simp at h
  | a :: l, 0, e, h => by
    obtain rfl : a = e := by simpa using h
    exact ⟨rfl, rfl, rfl, rfl, rfl⟩
  | a :: l, k + 1, e, h => by
    rw [List.flatMap_cons, show (k + 1) * 5 = k * 5 + 1 + 1 + 1 + 1 + 1 by omega]
    exact eff_get l k e (by simpa using h)

theorem eff_len (es : List EffA) : (es.flatMap EffA.cells).length = es.length * 5 := by
  induction es with
  | nil => rfl
  | cons a l ih => simp only [List.flatMap_cons, List.length_append, ih, List.length_cons]; simp [EffA.cells]; omega

theorem strikeE_len (G : GroveA) (sc : Bool) (n : Int) (ns : List Nat) : (G.strikeE sc n ns).length ≤ ns.length := by
  unfold GroveA.strikeE
  split
  · simp
  · rw [List.length_map]
    exact Nat.le_trans (List.length_filter_le _ _) (List.length_filter_le _ _)

section
variable {K : Kap} {A : GAt} {G : GroveA} {w w' : World}

theorem eown_keep {v : Value} {es : List EffA} (h : EOwn K w v es) (E : Ext K K w w') : EOwn K w' v es :=
  ⟨owns_of h.1 (fun b hb => E.keep b (h.1.lt b hb).2 (h.2 b hb)), h.2⟩

theorem eown_cells {v : Value} {es : List EffA} (h : EOwn K w v es) : ∃ ad cap, v = .slice ad es.length cap ∧ es.length ≤ maxLen ∧ ∀ k e, es[k]? = some e → ∃ b, ad = some ⟨b, 0, none⟩ ∧ b < w.heap.size ∧ es.length ≤ cap ∧ cap ≤ maxLen ∧
    w.cell? ⟨b, k * 5, none⟩ = some (.int .i64 e.kind) ∧ w.cell? ⟨b, k * 5 + 1, none⟩ = some (.int .i64 e.n) ∧ w.cell? ⟨b, k * 5 + 2, none⟩ = some (.int .i64 e.m) ∧ w.cell? ⟨b, k * 5 + 3, none⟩ = some (.int .i64 e.flt.kind) ∧ w.cell? ⟨b, k * 5 + 4, none⟩ = some (.string e.flt.text) := by
  have h0 := h.1
  rcases h.1.2 with ⟨rfl, hl⟩ | ⟨b, cap, cur, rfl, _, hg, hn, hm, _⟩
  · have : es = [] := List.eq_nil_of_length_eq_zero hl
    subst this
    exact ⟨none, 0, rfl, by simp, fun k e hk => by simp at hk⟩
  · refine ⟨_, cap, rfl, by omega, fun k e hk => ?_⟩
    have hi := (List.getElem?_eq_some_iff.1 hk).1
    obtain ⟨h1, h2, h3, h4, h5⟩ := eff_get es k e hk
    exact ⟨b, rfl, (Array.getElem?_eq_some_iff.1 hg).1, hn, hm, (h0.cellAt _ (by omega)).trans h1, (h0.cellAt _ (by omega)).trans h2, (h0.cellAt _ (by omega)).trans h3, (h0.cellAt _ (by omega)).trans h4, (h0.cellAt _ (by omega)).trans h5⟩

set_option maxRecDepth 100000 in
set_option maxHeartbeats 2000000 in
theorem gturned (R : GRep K A G w) (F : FitG G) {v : Value} {es : List EffA} (er : Int) (hE : EOwn K w v es) (hl : es.length ≤ 8) (hv : ∀ e ∈ es, e.kind = 1 → ∃ i : Nat, i < G.tree.scopes.length ∧ e.n = (i : Int) + 1) :
    Calls Try.prog 63 #[.pointer (some ⟨A.g, 0, none⟩), v, .int .i64 er] w fun e w' => ∃ v', e = .returned (.tuple #[v', .int .i64 er]) ∧ GRep K A (G.turn es).1 w' ∧ EOwn K w' v' (G.turn es).2 ∧ Fresh w v' ∧ Ext K K w w' := by
  obtain ⟨ad, cap, rfl, hml, hcells⟩ := eown_cells hE
  have HR := Lib.hid R
  have HF := Lib.hid F
  have HE := Lib.hid hE
  have HV := Lib.hid hv
  have HS : Hid (G.tree.scopes.length ≤ 200) := F.tree.scopes
  clear R F hE hv hcells
  generalize hm : es.length = m at *
  have Hm := Lib.hid hm
  clear hm
  go_enter Try.func63, Try.ntmps63
  go_wp2
  go_loopw [8, 13] (fun u i wr => ∃ (k : Nat) (Gk : GroveA) (acc : List EffA), k ≤ m ∧ i = .int .i64 (k : Int) ∧ Hid (GRep K A Gk wr) ∧ Hid (FitG Gk) ∧ Hid (Gk.tree = G.tree) ∧ Hid (EOwn K wr u acc) ∧ Hid (Fresh w u) ∧ Hid (acc.length ≤ k * 100001) ∧
    Hid (G.turn es = ((Gk.turn (es.drop k)).1, acc ++ (Gk.turn (es.drop k)).2)) ∧ Hid (Ext K K w wr)) (fun _ i _ => m - (intOf i).toNat)
  case atStart => exact ⟨0, G, [], Nat.zero_le _, rfl, HR.out, HF.out, rfl, eown_nil _ _, (fun b hb => by cases hb), by simp [Hid], rfl, Ext.refl _ _⟩
  case round =>
    obtain ⟨k, Gk, acc, hk, rfl, HRk, HFk, HTk, HU, HUf, HUl, HT, HX⟩ := hrel
    by_cases hlt : k < m
    · have hkl : k < es.length := by rw [Hm.out]; exact hlt
      obtain ⟨e, he⟩ : ∃ e, es[k]? = some e := ⟨_, List.getElem?_eq_getElem hkl⟩
      have hEr := eown_keep HE.out HX.out
      obtain ⟨ad2, cap2, hv2, _, hcells⟩ := eown_cells hEr
      obtain ⟨b, rfl, lb, hn2, hcm, d0, d1, d2, d3, d4⟩ := hcells k e he
      have hmem : e ∈ es := List.mem_of_getElem? he
      rw [Hm.out] at hv2 hn2
      injection hv2 with q1 q2 q3
      subst q1 q3
      have hdrop : es.drop k = e :: es.drop (k + 1) := by
        rw [List.drop_eq_getElem_cons hkl]
        rw [List.getElem?_eq_getElem hkl] at he
        rw [Option.some.inj he]
      rw [hdrop] at HT
      have HEr := Lib.hid hEr
      have HTl := Lib.hid hdrop
      unfold maxLen at hcm
      have hmem := Lib.hid hmem
      clear hdrop hEr he hcells q2
      have HK : Hid (acc.length ≤ 1000000 - 100001) := by
        have := HUl.out
        have : k ≤ 7 := by omega
        have : k * 100001 ≤ 7 * 100001 := Nat.mul_le_mul_right _ this
        show _ ≤ _
        omega
      by_cases h1 : e.kind = 1
      · obtain ⟨i, hi, hn⟩ := HV.out e hmem.out h1
        have hr : (Gk.tree.reach i).length ≤ 100001 := by
          unfold TreeA.reach
          have := HFk.out.tree.below i
          simp
          omega
        have HT2 : Hid (G.turn es = (((Gk.strikeG true ((i : Int) + 1)).turn (es.drop (k + 1))).1, (acc ++ Gk.strikeE true ((i : Int) + 1) (Gk.tree.reach i)) ++ ((Gk.strikeG true ((i : Int) + 1)).turn (es.drop (k + 1))).2)) := by
          show _ = _
          rw [HT.out, GroveA.turn, if_pos h1, hn]
          have : ((i : Int) + 1).toNat - 1 = i := by omega
          rw [this]
          simp
        have hl5 : (Gk.strikeE true ((i : Int) + 1) (Gk.tree.reach i)).length ≤ 100001 := Nat.le_trans (strikeE_len _ _ _ _) hr
        rw [h1] at d0
        rw [hn] at d1
        have CS : Hid (∀ W, Below wr.heap.size wr W → Calls Try.prog 53 #[.pointer (some ⟨A.g, 0, none⟩), .int .i64 ((i : Int) + 1)] W (GPost K A W (Gk.strikeG true ((i : Int) + 1)) (Gk.strikeE true ((i : Int) + 1) (Gk.tree.reach i)))) := fun W hW => gstrikes (HRk.out.below hW) HFk.out (by rw [HTk.out]; exact hi)
        have HF2 : Hid (FitG (Gk.strikeG true ((i : Int) + 1))) := HFk.out.strike (by omega) (by have := HS.out; simp; omega)
        have HT3 : Hid ((Gk.strikeG true ((i : Int) + 1)).tree = G.tree) := (strikeG_tree _ _ _).trans HTk.out
        clear h1 hn hi hr
        generalize Gk.strikeE true ((i : Int) + 1) (Gk.tree.reach i) = es5 at *
        generalize Gk.strikeG true ((i : Int) + 1) = G5 at *
        have hl5 := Lib.hid hl5
        have HLN : Hid (acc.length + es5.length ≤ 1000000) := by
          have h1 := HK.out
          have h2 := hl5.out
          show _ ≤ _
          omega
        go_wp2_with (first | (go_at_call 53; refine (CS.out _ ((Below.refl wr.heap.size wr).alloc (Nat.le_refl _) _)).mono ?_; rintro e5 w5 ⟨v5, rfl, R5, EO5, Fr5, E5⟩; have hu5 := Lib.hid (eown_keep (eown_keep HU.out (Ext.of_below ((Below.refl wr.heap.size wr).alloc (Nat.le_refl _) (.cells #[.int .i64 1, .int .i64 ((i : Int) + 1), .int .i64 e.m, .int .i64 e.flt.kind, .string e.flt.text] 62)))) E5); have R5 := Lib.hid R5; have EO5 := Lib.hid EO5; have E5 := Lib.hid E5; clear Fr5) | (at_builtin; refine wpList_extend rfl (.tmp 20) (.tmp 24) 51 rfl 62 5 48 _ Try.infoEffect rfl (by omega) (by omega) Try.underlying51 _ acc.length _ rfl hu5.out.1 v5 _ _ rfl EO5.out.1 (effs_one _) HLN.out ?_; intro v6 w6 hown6 hgrow6 hat6; have hown6 := Lib.hid hown6; have hgrow6 := Lib.hid hgrow6; have hat6 := Lib.hid hat6))
        have E06 : Ext K K w w6 := ((HX.out.alloc _).trans E5.out).grownNew hgrow6.out (fun b hb => HUf.out b hb)
        have R6 : GRep K A G5 w6 := R5.out.same hgrow6.out.size fun b t h => hgrow6.out.block b (R5.out.lt b t h) (fun e => by rw [hu5.out.2 b e.symm] at h; cases h)
        have E06 := Lib.hid E06
        have R6 := Lib.hid R6
        have h6 : ∀ b, v6.ownBlock = some b → K b = none ∧ w.heap.size ≤ b := fun b hb => by
          rcases hat6.out with h | h
          · exact ⟨hu5.out.2 b (h ▸ hb), HUf.out b (h ▸ hb)⟩
          · have hbw : b = w5.heap.size := Option.some.inj (hb.symm.trans h)
            exact ⟨R5.out.gone (by omega), by have h1 := HX.out.size; have h2 := E5.out.size; simp at h2; omega⟩
        have h6 := Lib.hid h6
        go_roundw
        case rel => exact ⟨k + 1, G5, acc ++ es5, by omega, by go_num, R6.out, HF2.out, HT3.out, ⟨by rw [List.length_append, List.flatMap_append]; exact hown6.out, fun b hb => (h6.out b hb).1⟩, (fun b hb => (h6.out b hb).2), (by show _ ≤ _; have := HUl.out; have := hl5.out; rw [List.length_append, Nat.add_mul]; omega), HT2.out, E06.out⟩
        case measure => simp [intOf]; omega
      · have hb1 : (e.kind == 1) = false := by simpa using h1
        have HT2 : Hid (G.turn es = ((Gk.turn (es.drop (k + 1))).1, (acc ++ [e]) ++ (Gk.turn (es.drop (k + 1))).2)) := by
          show _ = _
          rw [HT.out, GroveA.turn, if_neg h1]
          simp
        have h1 := Lib.hid h1
        have HUd := Lib.hid (HU.out.1)
        have HLN : Hid (acc.length ≤ 1000000) := by
          have h1 := HK.out
          show _ ≤ _
          omega
        go_wp2_with (at_builtin; refine wpList_push rfl (.tmp 26) (.tmp 28) 51 rfl 62 5 48 _ Try.infoEffect rfl (by omega) (by omega) Try.underlying51 _ acc.length _ rfl (HUd.out.alloc _) _ _ rfl (by simp) rfl (Try.effOne e) HLN.out ?_; intro g6 cap6 w6 hown6 hgrow6 hat6; have hown6 := Lib.hid hown6; have hgrow6 := Lib.hid hgrow6; have hat6 := Lib.hid hat6)
        have E06 : Ext K K w w6 := (HX.out.alloc _).grownNew hgrow6.out (fun b hb => HUf.out b hb)
        have R6 : GRep K A Gk w6 := (HRk.out.below ((Below.refl wr.heap.size wr).alloc (Nat.le_refl _) (.cells #[.int .i64 e.kind, .int .i64 e.n, .int .i64 e.m, .int .i64 e.flt.kind, .string e.flt.text] 62))).same hgrow6.out.size fun b t h => hgrow6.out.block b (Nat.lt_of_lt_of_le (HRk.out.lt b t h) (by simp)) (fun e => by rw [HU.out.2 b e.symm] at h; cases h)
        have E06 := Lib.hid E06
        have R6 := Lib.hid R6
        have h6 : K g6 = none ∧ w.heap.size ≤ g6 := by
          rcases hat6.out with h | h
          · exact ⟨HU.out.2 g6 h, HUf.out g6 h⟩
          · simp at h
            exact ⟨HRk.out.gone (by omega), by have h1 := HX.out.size; omega⟩
        have h6 := Lib.hid h6
        go_roundw
        case rel => exact ⟨k + 1, Gk, acc ++ [e], by omega, by go_num, R6.out, HFk.out, HTk.out, ⟨by rw [List.length_append, List.flatMap_append]; exact hown6.out, fun b hb => by
          have : g6 = b := by simpa [Value.ownBlock] using hb
          subst this; exact h6.out.1⟩, (fun b hb => by
          have : g6 = b := by simpa [Value.ownBlock] using hb
          subst this; exact h6.out.2), (by show _ ≤ _; have := HUl.out; rw [List.length_append, List.length_singleton]; omega), HT2.out, E06.out⟩
        case measure => simp [intOf]; omega
    · obtain rfl : k = m := by omega
      have hd : es.drop k = [] := List.drop_eq_nil_of_le (by rw [Hm.out]; exact Nat.le_refl _)
      rw [hd] at HT
      have HT2 : Hid (G.turn es = (Gk, acc)) := by
        show _ = _
        rw [HT.out]
        simp [GroveA.turn]
      clear hd
      go_wp2
      go_returns
      rw [HT2.out]
      exact ⟨_, rfl, HRk.out, HU.out, HUf.out, HX.out⟩

end
end Go.Proofs.Ytoonkidlbnndcaa
