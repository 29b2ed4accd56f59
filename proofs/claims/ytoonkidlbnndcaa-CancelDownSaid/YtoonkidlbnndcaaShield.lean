/-
  Shields: (*Tree).Shield and Unveil.
-/
import Derived.Test.YtoonkidlbnndcaaOpen2
import Derived.StillTailTactics
namespace Go.Proofs.Ytoonkidlbnndcaa
set_option linter.unusedVariables false
set_option linter.unusedSimpArgs false
open Go.RowKit

theorem count_take {l : List Nat} {k : Nat} (h : k < l.length) : (l.take (k + 1)).count 0 = (l.take k).count 0 + if l[k] = 0 then 1 else 0 := by
  rw [List.take_succ_eq_append_getElem h, List.count_append, List.count_singleton]
  simp

section
variable {κ : Kap} {L : Lay} {T : TreeA} {w : World}

theorem shield_nil (n : Int) (w : World) : Calls Try.prog 48 #[.pointer none, .int .i64 n] w fun e w' => e = .returned (.int .i64 2) ∧ w = w' := by
  go_enter Try.func48, Try.ntmps48
  go_wp2_with (go_at_call 77; refine (acts_nil _ _).mono ?_; rintro e w' ⟨rfl, rfl⟩)
  go_ret
  exact ⟨rfl, rfl⟩
theorem shield_none (R : Rep κ L T w) {n : Int} (h : T.run? n = none) :
    Calls Try.prog 48 #[.pointer (some ⟨L.t, 0, none⟩), .int .i64 n] w fun e w' => e = .returned (.int .i64 6) ∧ w = w' := by
  have C := Lib.hid (acts_none R h)
  clear R h
  go_enter Try.func48, Try.ntmps48
  go_wp2_with (go_at_call 77; refine C.out.mono ?_; rintro e w' ⟨rfl, rfl⟩)
  go_ret
  exact ⟨rfl, rfl⟩
theorem shield_leaving (R : Rep κ L T w) {n : Int} {i : Nat} {x : TaskA} (h : T.run? n = some i) (hx : T.tasks[i]? = some x) (hl : x.leaving = true) :
    Calls Try.prog 48 #[.pointer (some ⟨L.t, 0, none⟩), .int .i64 n] w fun e w' => e = .returned (.int .i64 22) ∧ w = w' := by
  have C := Lib.hid (acts_leaving R h hx hl)
  clear R h hx hl
  go_enter Try.func48, Try.ntmps48
  go_wp2_with (go_at_call 77; refine C.out.mono ?_; rintro e w' ⟨rfl, rfl⟩)
  go_ret
  exact ⟨rfl, rfl⟩

/-- The tree in which the open links of task i are l. -/
def TreeA.setOpn (T : TreeA) (i : Nat) (x : TaskA) (l : List Nat) : TreeA := { T with tasks := T.tasks.set i { x with opn := l } }

def ShieldPost (κ : Kap) (L : Lay) (T : TreeA) (w : World) (i : Nat) (x : TaskA) (e : Ending) (w' : World) : Prop :=
  (40 ≤ x.opn.count 0 ∧ e = .returned (.int .i64 5) ∧ w = w') ∨
  (x.opn.count 0 < 40 ∧ e = .returned (.int .i64 0) ∧ ∃ κ' L', L'.t = L.t ∧ Rep κ' L' (T.setOpn i x (x.opn ++ [0])) w' ∧ Ext κ κ' w w')

set_option maxRecDepth 100000 in
theorem shield_any (R : Rep κ L T w) {n : Int} {i : Nat} {x : TaskA} (h : T.run? n = some i) (hx : T.tasks[i]? = some x) (hl : x.leaving = false) (hol : x.opn.length ≤ 1000) :
    Calls Try.prog 48 #[.pointer (some ⟨L.t, 0, none⟩), .int .i64 n] w (ShieldPost κ L T w i x) := by
  have C := Lib.hid (acts_some R h hx hl)
  obtain ⟨_, _, d2, _⟩ := R.tcells hx
  have hB := R.task i x hx
  have hown := R.opn i x hx
  have FIN : Hid (∀ {w1 : World} {g cap : Nat}, w.grownBy w1 (L.ov i).ownBlock → w1.ownsRow 0 109 1 (.slice (some ⟨g, 0, none⟩) (x.opn.length + 1) cap) (x.opn.length + 1) (x.opn.map L.sp ++ [.pointer none]) → ((L.ov i).ownBlock = some g ∨ w.heap.size ≤ g) →
      w1.cell? ⟨L.tb i, 2, none⟩ = some (L.ov i) ∧ w1.frozen? ⟨L.tb i, 2, none⟩ = false ∧
      Hid (∃ κ' L', L'.t = L.t ∧ Rep κ' L' (T.setOpn i x (x.opn ++ [0])) (w1.setCell ⟨L.tb i, 2, none⟩ (.slice (some ⟨g, 0, none⟩) (x.opn.length + 1) cap)) ∧ Ext κ κ' w (w1.setCell ⟨L.tb i, 2, none⟩ (.slice (some ⟨g, 0, none⟩) (x.opn.length + 1) cap)))) := fun {w1 g cap} hg hv hat => by
    have hS := opn_cells R hx hg
    refine ⟨hS.cell 2 rfl, hS.frozen 2, ?_⟩
    obtain ⟨κ2, R2, E2⟩ := opn_mem R (i := i) hx (x.opn ++ [0]) (w1 := w1) (g := g) (cap := cap) hg (by rw [List.map_append, List.map_singleton, List.length_append]; exact hv) hat
    simp only [List.length_append, List.length_singleton] at R2 E2
    refine ⟨κ2, _, ?_, R2, E2⟩
    rfl
  have HL := Lib.hid hl
  rcases owns_form hown with ⟨hv, h0, h0'⟩ | ⟨g, cap, hv, hcap, hm, _, hc, _⟩
  · rw [hv] at d2 FIN hown
    have hnil : x.opn = [] := by simpa using h0'
    have HN := Lib.hid hnil
    rw [h0] at FIN
    have HT := Lib.hid hown
    rw [h0] at HT
    clear R hown hx h hl hv h0 h0' hnil
    go_enter Try.func48, Try.ntmps48
    go_wp2_with (go_at_call 77; refine C.out.mono ?_; rintro e w' ⟨rfl, rfl⟩)
    refine wp_loop_rounds 1 ?_
    rw [rounds_succ]
    go_wp2_with (at_builtin; refine wpList_push rfl (.tmp 39) (.tmp 40) 105 rfl 109 1 8 _ Try.infoScopeP rfl (by omega) (by omega) Try.underlying105 (.slice none 0 0) 0 _ rfl HT.out _ _ rfl rfl rfl (one_ptr _) (by omega) ?_; intro g cap' w1 hown' hgrow hat; obtain ⟨k0, k1, F⟩ := FIN.out hgrow hown' (by simpa using hat))
    go_ret
    exact .inr ⟨by rw [HN.out]; simp, rfl, F.out⟩
  · have hc' : ∀ j, j < x.opn.length → w.cell? ⟨g, j, none⟩ = (x.opn.map L.sp)[j]? := hc
    rw [hv] at d2 FIN hown
    have HT := Lib.hid hown
    have HC := Lib.hid hc'
    unfold maxLen at hm
    generalize hn' : x.opn.length = m at *
    have HN := Lib.hid hn'
    clear R hown hx h hl hv hc hc' hn' hB
    go_enter Try.func48, Try.ntmps48
    go_wp2_with (go_at_call 77; refine C.out.mono ?_; rintro e w' ⟨rfl, rfl⟩)
    go_loop [7, 24] (fun c i => ∃ k d : Nat, k ≤ m ∧ d ≤ k ∧ i = .int .i64 k ∧ c = .int .i64 d ∧ Hid ((x.opn.take k).count 0 = d)) (fun _ i => m - (intOf i).toNat)
    case atStart => exact ⟨0, 0, Nat.zero_le _, Nat.le_refl _, rfl, rfl, by simp [Hid]⟩
    case round =>
      obtain ⟨k, d, hk, hd, rfl, rfl, hcnt⟩ := hrel
      by_cases hlt : k < m
      · have hkl : k < x.opn.length := by rw [HN.out]; exact hlt
        have hcell := HC.out k hlt
        rw [List.getElem?_map, List.getElem?_eq_getElem hkl, Option.map_some] at hcell
        have hct := count_take hkl
        rw [hcnt.out] at hct
        generalize hs : x.opn[k] = s at hcell hct
        clear hs
        by_cases h0 : s = 0
        · subst h0
          rw [Lay.sp_zero] at hcell
          rw [if_pos rfl] at hct
          have hct := Lib.hid hct
          go_wp2
          go_round
          case rel => exact ⟨k + 1, d + 1, by omega, by omega, by go_num, by go_num, hct.out⟩
          case measure => simp [intOf]; omega
        · have hsp : L.sp s = .pointer (some ⟨L.sb (s - 1), 0, none⟩) := by simp [Lay.sp, h0]
          rw [hsp] at hcell
          rw [if_neg h0, Nat.add_zero] at hct
          have hct := Lib.hid hct
          clear hsp h0
          go_wp2
          go_round
          case rel => exact ⟨k + 1, d, by omega, by omega, by go_num, rfl, hct.out⟩
          case measure => simp [intOf]; omega
      · obtain rfl : k = m := by omega
        have hcf : x.opn.count 0 = d := by have := hcnt.out; rwa [List.take_of_length_le (by rw [HN.out]; exact Nat.le_refl _)] at this
        have HCF := Lib.hid hcf
        clear hcf
        by_cases h40 : 40 ≤ d
        · go_wp2
          go_ret
          exact .inl ⟨by rw [HCF.out]; exact h40, rfl, rfl⟩
        · go_wp2_with (at_builtin; refine wpList_push rfl (.tmp 39) (.tmp 40) 105 rfl 109 1 8 _ Try.infoScopeP rfl (by omega) (by omega) Try.underlying105 (.slice (some ⟨g, 0, none⟩) k cap) k _ rfl HT.out _ _ rfl rfl rfl (one_ptr _) (by omega) ?_; intro g cap' w1 hown' hgrow hat; obtain ⟨k0, k1, F⟩ := FIN.out hgrow hown' (by simpa using hat))
          go_ret
          exact .inr ⟨by rw [HCF.out]; omega, rfl, F.out⟩

theorem unveil_nil (n : Int) (w : World) : Calls Try.prog 49 #[.pointer none, .int .i64 n] w fun e w' => e = .returned (.int .i64 2) ∧ w = w' := by
  go_enter Try.func49, Try.ntmps49
  go_wp2_with (go_at_call 77; refine (acts_nil _ _).mono ?_; rintro e w' ⟨rfl, rfl⟩)
  go_ret
  exact ⟨rfl, rfl⟩
theorem unveil_none (R : Rep κ L T w) {n : Int} (h : T.run? n = none) :
    Calls Try.prog 49 #[.pointer (some ⟨L.t, 0, none⟩), .int .i64 n] w fun e w' => e = .returned (.int .i64 6) ∧ w = w' := by
  have C := Lib.hid (acts_none R h)
  clear R h
  go_enter Try.func49, Try.ntmps49
  go_wp2_with (go_at_call 77; refine C.out.mono ?_; rintro e w' ⟨rfl, rfl⟩)
  go_ret
  exact ⟨rfl, rfl⟩
theorem unveil_leaving (R : Rep κ L T w) {n : Int} {i : Nat} {x : TaskA} (h : T.run? n = some i) (hx : T.tasks[i]? = some x) (hl : x.leaving = true) :
    Calls Try.prog 49 #[.pointer (some ⟨L.t, 0, none⟩), .int .i64 n] w fun e w' => e = .returned (.int .i64 22) ∧ w = w' := by
  have C := Lib.hid (acts_leaving R h hx hl)
  clear R h hx hl
  go_enter Try.func49, Try.ntmps49
  go_wp2_with (go_at_call 77; refine C.out.mono ?_; rintro e w' ⟨rfl, rfl⟩)
  go_ret
  exact ⟨rfl, rfl⟩
theorem unveil_empty (R : Rep κ L T w) {n : Int} {i : Nat} {x : TaskA} (h : T.run? n = some i) (hx : T.tasks[i]? = some x) (hl : x.leaving = false) (ho : x.opn = []) :
    Calls Try.prog 49 #[.pointer (some ⟨L.t, 0, none⟩), .int .i64 n] w fun e w' => e = .returned (.int .i64 22) ∧ w = w' := by
  have C := Lib.hid (acts_some R h hx hl)
  have C2 := Lib.hid (inner_none R hx ho)
  clear R h hx hl ho
  go_enter Try.func49, Try.ntmps49
  go_wp2_with (first | (go_at_call 77; refine C.out.mono ?_; rintro e w' ⟨rfl, rfl⟩) | (go_at_call 78; refine C2.out.mono ?_; rintro e w' ⟨rfl, rfl⟩))
  go_ret
  exact ⟨rfl, rfl⟩
theorem unveil_scope (R : Rep κ L T w) {n : Int} {i : Nat} {x : TaskA} {l : List Nat} {s : Nat} (h : T.run? n = some i) (hx : T.tasks[i]? = some x) (hl : x.leaving = false) (ho : x.opn = l ++ [s]) (hs : s ≠ 0) :
    Calls Try.prog 49 #[.pointer (some ⟨L.t, 0, none⟩), .int .i64 n] w fun e w' => e = .returned (.int .i64 22) ∧ ∃ k, w' = w.drewN k := by
  have C := Lib.hid (acts_some R h hx hl)
  have C2 := inner_some R hx ho
  have hsp : L.sp s = .pointer (some ⟨L.sb (s - 1), 0, none⟩) := by simp [Lay.sp, hs]
  rw [hsp] at C2
  have C2 := Lib.hid C2
  clear R h hx hl ho hs hsp
  go_enter Try.func49, Try.ntmps49
  go_wp2_with (first | (go_at_call 77; refine C.out.mono ?_; rintro e w' ⟨rfl, rfl⟩) | (go_at_call 78; refine C2.out.mono ?_; rintro e w' ⟨rfl, k, rfl⟩))
  go_ret
  exact ⟨rfl, _, rfl⟩
set_option maxRecDepth 100000 in
theorem unveil_ok (R : Rep κ L T w) {n : Int} {i : Nat} {x : TaskA} {l : List Nat} (h : T.run? n = some i) (hx : T.tasks[i]? = some x) (hl : x.leaving = false) (ho : x.opn = l ++ [0]) :
    Calls Try.prog 49 #[.pointer (some ⟨L.t, 0, none⟩), .int .i64 n] w fun e w' => e = .returned (.int .i64 0) ∧ ∃ κ' L', L'.t = L.t ∧ Rep κ' L' (T.setOpn i x l) w' ∧ Ext κ κ' w w' := by
  have C := Lib.hid (acts_some R h hx hl)
  have C2 := inner_some R hx ho
  rw [Lay.sp_zero] at C2
  have C2 := Lib.hid C2
  have hown := R.opn i x hx
  obtain ⟨_, _, d2, _⟩ := R.tcells hx
  have hf2 := (R.task i x hx).frozen 2
  rcases owns_form hown with ⟨_, h0, _⟩ | ⟨g, cap, hv, hcap, hm, _, _, _⟩
  · rw [ho] at h0; simp at h0
  have FIN : Hid (∀ k, ∃ κ' L', L'.t = L.t ∧ Rep κ' L' (T.setOpn i x l) ((w.drewN k).setCell ⟨L.tb i, 2, none⟩ (.slice (some ⟨g, 0, none⟩) l.length cap)) ∧ Ext κ κ' w ((w.drewN k).setCell ⟨L.tb i, 2, none⟩ (.slice (some ⟨g, 0, none⟩) l.length cap))) := fun k => by
    have hown2 : w.ownsRow 0 109 1 (.slice (some ⟨g, 0, none⟩) l.length cap) l.length (l.map L.sp) := by
      rw [ho] at hown hv
      rw [hv] at hown
      rcases hown.2 with ⟨h, _⟩ | ⟨g', cap', cur, he, hb, hh, h1, h2, h3, h4⟩
      · cases h
      · obtain ⟨rfl, rfl⟩ : g = g' ∧ cap = cap' := by injection he with e1 e2 e3; exact ⟨by injection e1 with e; injection e, e3⟩
        simp only [List.length_append, List.length_singleton, Nat.mul_one, List.map_append, List.map_singleton] at h1 h4
        refine ⟨by simp, .inr ⟨g, cap, cur, rfl, hb, hh, by omega, h2, h3, ?_⟩⟩
        have := congrArg (List.take l.length) h4
        rw [List.take_take, List.take_left' (by simp)] at this
        rw [Nat.mul_one]
        rw [← this]
        congr 1
        omega
    obtain ⟨κ2, R2, E2⟩ := opn_mem R (i := i) hx l (w1 := w.drewN k) (g := g) (cap := cap) (gb_drewN (gb_refl w _) k) hown2 (.inl (by rw [hv]; rfl))
    refine ⟨κ2, _, ?_, R2, E2⟩
    rfl
  rw [hv] at d2
  rw [ho] at d2 hcap
  simp only [List.length_append, List.length_singleton] at d2 hcap hm
  unfold maxLen at hm
  have e1 : IntKind.i64.wrap (((l.length + 1 : Nat) : Int) - 1) = (l.length : Int) := by rw [IntWalk.i64_in _ (by omega)]; omega
  have e2 : IntKind.i64.wrap ((l.length : Int) + 1 - 1) = (l.length : Int) := by rw [IntWalk.i64_in _ (by omega)]; omega
  have e3 : IntKind.i64.wrap (l.length : Int) = (l.length : Int) := by rw [IntWalk.i64_in _ (by omega)]
  generalize l.length = m at *
  have hmc : m ≤ cap := by omega
  clear R h hx hl ho hown hv
  go_enter Try.func49, Try.ntmps49
  go_wp2_with (first | (go_at_call 77; refine C.out.mono ?_; rintro e w' ⟨rfl, rfl⟩) | (go_at_call 78; refine C2.out.mono ?_; rintro e w' ⟨rfl, k, rfl⟩))
  have d2k : (w.drewN k).cell? ⟨L.tb i, 2, none⟩ = some (.slice (some ⟨g, 0, none⟩) (m + 1) cap) := d2
  have hf2k : (w.drewN k).frozen? ⟨L.tb i, 2, none⟩ = false := hf2
  have FK := Lib.hid (FIN.out k)
  clear d2 hf2 FIN
  generalize w.drewN k = W at d2k hf2k FK ⊢
  go_still_tail 14, (by kernel_rfl)
  change wpList _ _ _ _ _ W.drew
  go_wp2
  go_ret
  obtain ⟨κ', L', h1, h2, h3⟩ := FK.out
  exact ⟨rfl, κ', L', h1, h2.drew, h3.drewN 1⟩

end
end Go.Proofs.Ytoonkidlbnndcaa
