/-
  (*Grove).Pending, walked.
-/
import Derived.Test.YtoonkidlbnndcaaGrove
import Derived.BigQuiet
namespace Go.Proofs.Ytoonkidlbnndcaa
set_option linter.unusedVariables false
set_option linter.unusedSimpArgs false
open Go.RowKit

section
variable {K : Kap} {A : GAt} {G : GroveA} {w w' : World}

theorem int_wf {n : Int} (h1 : -1000000 ≤ n) (h2 : n ≤ 1000000) : (Lit.int .i64 n).wf = true := by
  have e1 : IntKind.i64.min = -9223372036854775808 := by decide
  have e2 : IntKind.i64.max = 9223372036854775807 := by decide
  simp only [Lit.wf, e1, e2, Bool.and_eq_true, decide_eq_true_eq]
  omega

theorem flat2 {α : Type} (f : α → List Value) (g h : α → Value) (hf : ∀ a, f a = [g a, h a]) : ∀ (l : List α) (k : Nat) (hk : k < l.length), (l.flatMap f)[2 * k]? = some (g l[k]) ∧ (l.flatMap f)[2 * k + 1]? = some (h l[k])
  | [], k, hk => by simp at hk
  | a :: l, 0, _ => by rw [List.flatMap_cons, hf]; exact ⟨rfl, rfl⟩
  | a :: l, k + 1, hk => by
    rw [List.flatMap_cons, hf]
    have := flat2 f g h hf l k (by simpa using hk)
    rw [show 2 * (k + 1) = 2 * k + 1 + 1 by omega]
    exact this

theorem owns_formS {w : World} {e n s : Nat} {v : Value} {xs : List Value} (h : w.ownsRow 0 e s v n xs) :
    (v = .slice none 0 0 ∧ n = 0 ∧ xs = []) ∨ ∃ g cap, v = .slice (some ⟨g, 0, none⟩) n cap ∧ n ≤ cap ∧ cap ≤ maxLen ∧ g < w.heap.size ∧ (∀ j, j < xs.length → w.cell? ⟨g, j, none⟩ = xs[j]?) := by
  have h0 := h
  rcases h.2 with ⟨rfl, rfl⟩ | ⟨g, cap, cur, rfl, _, hgg, hn, hm, _, _⟩
  · exact .inl ⟨rfl, rfl, List.eq_nil_of_length_eq_zero (by simpa using h.1)⟩
  · exact .inr ⟨g, cap, rfl, hn, hm, (Array.getElem?_eq_some_iff.1 hgg).1, fun j hj => h0.cellAt j (by have := h.1; omega)⟩

theorem pend_yes1 {ts ss : List Int} {n : Nat} (l : List LinkA) (h : (n : Int) ∈ ts) : pendL ts ss ((1, n) :: l) = true := by simp [pendL, h]
theorem pend_no1 {ts ss : List Int} {n : Nat} (l : List LinkA) (h : ¬ (n : Int) ∈ ts) : pendL ts ss ((1, n) :: l) = pendL ts ss l := by simp [pendL, h]
theorem pend_yes2 {ts ss : List Int} {n : Nat} (l : List LinkA) (h : (n : Int) ∈ ss) : pendL ts ss ((2, n) :: l) = true := by simp [pendL, h]
theorem pend_no2 {ts ss : List Int} {n : Nat} (l : List LinkA) (h : ¬ (n : Int) ∈ ss) : pendL ts ss ((2, n) :: l) = pendL ts ss l := by simp [pendL, h]
theorem pend_skip {ts ss : List Int} {k : Int} {n : Nat} (l : List LinkA) (h1 : ¬ k = 1) (h2 : ¬ k = 2) (h3 : ¬ k = 3) : pendL ts ss ((k, n) :: l) = pendL ts ss l := by simp [pendL, h1, h2, h3]

set_option maxRecDepth 100000 in
set_option maxHeartbeats 2000000 in
theorem gpending (R : GRep K A G w) (F : FitT G.tree) (n : Int) : Calls Try.prog 18 #[.pointer (some ⟨A.g, 0, none⟩), .int .i64 n] w fun e w' => e = .returned (.bool (G.pending n)) ∧ Below w.heap.size w w' := by
  have C1 := Lib.hid (gtree_some R)
  have C2 := Lib.hid (chain_any R.rep F n)
  have hbd := F.chain n
  obtain ⟨_, g1, g2, _⟩ := R.gcells
  have lg := R.grove.lt
  have HT := Lib.hid R.tasks
  have HS := Lib.hid R.scopes
  have hgp : G.pending n = pendL G.tasks G.scopes (G.tree.chain n) := rfl
  rw [hgp]
  generalize (if (G.tree.run? n).isSome = true then (0 : Int) else 6) = er at C2
  generalize G.tree.chain n = ls at *
  generalize G.tasks = ts at *
  generalize G.scopes = ss at *
  clear R F hgp
  have Hbd := Lib.hid hbd
  clear hbd
  go_enter Try.func18, Try.ntmps18
  go_wp2_with (first | (go_at_call 42; refine C1.out.mono ?_; rintro e w' ⟨rfl, rfl⟩) | (go_at_call 45; refine C2.out.mono ?_; rintro e w1 ⟨v, rfl, hown, hfr, hb⟩; obtain ⟨ad, cap, rfl⟩ := owns_shape hown; have hown := Lib.hid hown; have hb := Lib.hid hb; clear hfr))
  have hfl : ∀ (k : Nat) (p : LinkA), ls[k]? = some p → (ls.flatMap LinkA.cells)[2 * k]? = some (.int .i64 p.1) ∧ (ls.flatMap LinkA.cells)[2 * k + 1]? = some (.int .i64 (p.2 : Int)) := fun k p hp => by
    obtain ⟨hk, rfl⟩ := List.getElem?_eq_some_iff.1 hp
    exact flat2 LinkA.cells (fun p => .int .i64 p.1) (fun p => .int .i64 (p.2 : Int)) (fun _ => rfl) ls k hk
  have Hfl := Lib.hid hfl
  have hw1 := hb.out.size
  have g1' := (hb.out.cell (p := ⟨A.g, 1, none⟩) lg).trans g1
  have g2' := (hb.out.cell (p := ⟨A.g, 2, none⟩) lg).trans g2
  have Hown := Lib.hid (owns_formS hown.out)
  have Hln : Hid ((ls.flatMap LinkA.cells).length = ls.length * 2) := hown.out.1
  clear hfl hown
  generalize hn : ls.length = m at *
  have Hn := Lib.hid hn
  clear hn g1 g2
  have hm5 : m ≤ 100000 := Hbd.out.1
  go_loopw [18] (fun i wr => ∃ k : Nat, k ≤ m ∧ i = .int .i64 k ∧ Hid (pendL ts ss ls = pendL ts ss (ls.drop k)) ∧ Hid (Below w1.heap.size w1 wr)) (fun i _ => m - (intOf i).toNat)
  case atStart => exact ⟨0, Nat.zero_le _, rfl, rfl, Below.refl _ _⟩
  case round =>
    obtain ⟨k, hk, rfl, HP, HB⟩ := hrel
    by_cases hlt : k < m
    · have hkl : k < ls.length := by rw [Hn.out]; exact hlt
      rcases Hown.out with ⟨_, h0, _⟩ | ⟨gb, gcap, hv, hcap, hcm, lgb, hoc⟩
      · omega
      injection hv with hv1 hv2 hv3
      subst hv1 hv3
      obtain ⟨⟨pk, pn⟩, hp⟩ : ∃ p, ls[k]? = some p := ⟨_, List.getElem?_eq_getElem hkl⟩
      obtain ⟨q1, q2⟩ := Hfl.out k _ hp
      have c1 := (HB.out.cell (p := ⟨gb, 2 * k, none⟩) lgb).trans ((hoc (2 * k) (by rw [Hln.out]; omega)).trans q1)
      have c2 := (HB.out.cell (p := ⟨gb, 2 * k + 1, none⟩) lgb).trans ((hoc (2 * k + 1) (by rw [Hln.out]; omega)).trans q2)
      rw [Nat.mul_comm 2 k] at c1 c2
      have hdrop : ls.drop k = (pk, pn) :: ls.drop (k + 1) := by
        rw [List.drop_eq_getElem_cons hkl]
        rw [List.getElem?_eq_getElem hkl] at hp
        rw [Option.some.inj hp]
      have HP2 : Hid (pendL ts ss ls = pendL ts ss ((pk, pn) :: ls.drop (k + 1))) := by rw [← hdrop]; exact HP
      have hpn : (pn : Int) ≤ 1000 := Hbd.out.2 (pk, pn) (List.mem_of_getElem? hp)
      have lgb' : gb < wr.heap.size := Nat.lt_of_lt_of_le lgb HB.out.size
      have HB0 : Hid (Below w.heap.size w wr) := hb.out.trans (HB.out.mono hw1)
      have LT : Hid (∀ W, Below w.heap.size w W → (Instr.lookup 84 (.map (some A.mt)) (.int .i64 (pn : Int)) false).run Try.prog W = .ok (.bool (decide ((pn : Int) ∈ ts))) W) := fun W hW => (HT.out.kept (hW.block _ HT.out.lt)).look (int_wf (by omega) (by omega))
      have LS : Hid (∀ W, Below w.heap.size w W → (Instr.lookup 84 (.map (some A.ms)) (.int .i64 (pn : Int)) false).run Try.prog W = .ok (.bool (decide ((pn : Int) ∈ ss))) W) := fun W hW => (HS.out.kept (hW.block _ HS.out.lt)).look (int_wf (by omega) (by omega))
      have g1w := (HB.out.cell (p := ⟨A.g, 1, none⟩) (Nat.lt_of_lt_of_le lg hw1)).trans g1'
      have g2w := (HB.out.cell (p := ⟨A.g, 2, none⟩) (Nat.lt_of_lt_of_le lg hw1)).trans g2'
      have lg' : A.g < wr.heap.size := Nat.lt_of_lt_of_le (Nat.lt_of_lt_of_le lg hw1) HB.out.size
      have hw0 : w.heap.size ≤ wr.heap.size := HB0.out.size
      clear hp q1 q2 hdrop hpn hoc HP hown hv2
      by_cases h3 : pk = 3
      · subst h3
        go_wp2
        go_returns
        exact ⟨by rw [HP2.out]; simp [pendL], HB0.out.trans ((Below.refl w.heap.size wr).alloc hw0 _)⟩
      · go_wp2
        have hb0 : Below w.heap.size w (wr.alloc (.cells #[.int .i64 pk, .int .i64 (pn : Int)] 37)) := HB0.out.trans ((Below.refl w.heap.size wr).alloc hw0 _)
        have hb1 : Below w1.heap.size w1 (wr.alloc (.cells #[.int .i64 pk, .int .i64 (pn : Int)] 37)) := HB.out.trans ((Below.refl w1.heap.size wr).alloc HB.out.size _)
        have bl := Blk.new wr 37 #[.int .i64 pk, .int .i64 (pn : Int)]
        have l0 := bl.cell 0 rfl
        have l1 := bl.cell 1 rfl
        have k1 := ((Below.refl wr.heap.size wr).alloc (Nat.le_refl _) (.cells #[.int .i64 pk, .int .i64 (pn : Int)] 37)).cell (p := ⟨A.g, 1, none⟩) lg'
        have k2 := ((Below.refl wr.heap.size wr).alloc (Nat.le_refl _) (.cells #[.int .i64 pk, .int .i64 (pn : Int)] 37)).cell (p := ⟨A.g, 2, none⟩) lg'
        rw [g1w] at k1
        rw [g2w] at k2
        clear bl c1 c2 g1w g2w HB HB0
        generalize wr.alloc (.cells #[.int .i64 pk, .int .i64 (pn : Int)] 37) = W0 at *
        have HB2 := Lib.hid hb1
        have HB3 := Lib.hid hb0
        have L1 := LT.out W0 hb0
        have L2 := LS.out W0 hb0
        have L1d := LT.out W0.drew hb0.drew
        have L2d := LS.out W0.drew hb0.drew
        have L1n : ∀ q, (Instr.lookup 84 (.map (some A.mt)) (.int .i64 (pn : Int)) false).run Try.prog (W0.drewN q) = .ok (.bool (decide ((pn : Int) ∈ ts))) (W0.drewN q) := fun q => LT.out _ (Below.trans hb0 ⟨rfl, rfl, rfl, Nat.le_refl _, fun _ _ => rfl⟩)
        have L2n : ∀ q, (Instr.lookup 84 (.map (some A.ms)) (.int .i64 (pn : Int)) false).run Try.prog (W0.drewN q) = .ok (.bool (decide ((pn : Int) ∈ ss))) (W0.drewN q) := fun q => LS.out _ (Below.trans hb0 ⟨rfl, rfl, rfl, Nat.le_refl _, fun _ _ => rfl⟩)
        clear hb0 hb1
        have Hmt : Hid (decide ((pn : Int) ∈ ts) = decide ((pn : Int) ∈ ts)) := rfl
        generalize hbt : decide ((pn : Int) ∈ ts) = bt at L1 L1d L1n
        generalize hbs : decide ((pn : Int) ∈ ss) = bs at L2 L2d L2n
        have Hbt := Lib.hid hbt
        have Hbs := Lib.hid hbs
        clear hbt hbs Hmt
        have Below0 : ∀ q, Below w.heap.size w (W0.drewN q) := fun q => Below.trans HB3.out ⟨rfl, rfl, rfl, Nat.le_refl _, fun _ _ => rfl⟩
        have Below1 : ∀ q, Below w1.heap.size w1 (W0.drewN q) := fun q => Below.trans HB2.out ⟨rfl, rfl, rfl, Nat.le_refl _, fun _ _ => rfl⟩
        have Below0 := Lib.hid Below0
        have Below1 := Lib.hid Below1
        by_cases h1 : pk = 1
        · subst h1
          cases bt with
          | true =>
            have HP3 : Hid (pendL ts ss ls = true) := HP2.out.trans (pend_yes1 _ (of_decide_eq_true Hbt.out))
            go_quiet (fail)
            go_wp2
            go_returns
            exact ⟨by rw [HP3.out]; rfl, by first | exact Below0.out _ | (rw [World.drewN_drewN]; exact Below0.out _)⟩
          | false =>
            have HP3 : Hid (pendL ts ss ls = pendL ts ss (ls.drop (k + 1))) := HP2.out.trans (pend_no1 _ (of_decide_eq_false Hbt.out))
            go_quiet (fail)
            go_wp2
            go_quiet (fail)
            go_wp2
            go_roundw
            case rel => exact ⟨k + 1, by omega, by go_num, HP3.out, by first | exact Below1.out _ | (show Below _ _ _; rw [World.drewN_drewN]; exact Below1.out _)⟩
            case measure => simp [intOf]; omega
        · have b1 : (pk == 1) = false := by simpa using h1
          by_cases h2 : pk = 2
          · subst h2
            cases bs with
            | true =>
              have HP3 : Hid (pendL ts ss ls = true) := HP2.out.trans (pend_yes2 _ (of_decide_eq_true Hbs.out))
              go_quiet (fail)
              go_wp2
              go_quiet (fail)
              go_wp2
              go_returns
              exact ⟨by rw [HP3.out]; rfl, by first | exact Below0.out _ | (rw [World.drewN_drewN]; exact Below0.out _)⟩
            | false =>
              have HP3 : Hid (pendL ts ss ls = pendL ts ss (ls.drop (k + 1))) := HP2.out.trans (pend_no2 _ (of_decide_eq_false Hbs.out))
              go_quiet (fail)
              go_wp2
              go_quiet (fail)
              go_wp2
              go_roundw
              case rel => exact ⟨k + 1, by omega, by go_num, HP3.out, by first | exact Below1.out _ | (show Below _ _ _; rw [World.drewN_drewN]; exact Below1.out _)⟩
              case measure => simp [intOf]; omega
          · have b2 : (pk == 2) = false := by simpa using h2
            have HP3 : Hid (pendL ts ss ls = pendL ts ss (ls.drop (k + 1))) := HP2.out.trans (pend_skip _ h1 h2 h3)
            go_quiet (fail)
            go_wp2
            go_quiet (fail)
            go_wp2
            go_roundw
            case rel => exact ⟨k + 1, by omega, by go_num, HP3.out, by first | exact Below1.out _ | (show Below _ _ _; rw [World.drewN_drewN]; exact Below1.out _)⟩
            case measure => simp [intOf]; omega
    · obtain rfl : k = m := by omega
      have hd : ls.drop k = [] := List.drop_eq_nil_of_le (by rw [Hn.out]; exact Nat.le_refl _)
      rw [hd] at HP
      go_wp2
      go_returns
      exact ⟨by rw [HP.out]; rfl, hb.out.trans (HB.out.mono hw1)⟩

end
end Go.Proofs.Ytoonkidlbnndcaa
