/-
  (*Grove).Strike.
-/
import Derived.Test.YtoonkidlbnndcaaExpire
namespace Go.Proofs.Ytoonkidlbnndcaa
set_option linter.unusedVariables false
set_option linter.unusedSimpArgs false
open Go.RowKit

theorem link_len (ns : List Nat) : (ns.flatMap linkCells).length = ns.length * 2 := by
  induction ns with
  | nil => rfl
  | cons a l ih => simp only [List.flatMap_cons, List.length_append, ih, List.length_cons]; simp [linkCells]; omega

theorem link_get : ∀ (ns : List Nat) (k : Nat) (q : Nat), ns[k]? = some q → (ns.flatMap linkCells)[k * 2]? = some (.int .i64 (lk q)) ∧ (ns.flatMap linkCells)[k * 2 + 1]? = some (.int .i64 (q : Int))
  | [], k, q, h => by simp at h
  | a :: l, 0, q, h => by
    obtain rfl : a = q := by simpa using h
    exact ⟨rfl, rfl⟩
  | a :: l, k + 1, q, h => by
    rw [List.flatMap_cons, show (k + 1) * 2 = k * 2 + 1 + 1 by omega]
    exact link_get l k q (by simpa using h)

theorem outerN_first {ns : List Nat} {k q : Nat} (hz : ∀ j, j < k → ns[j]? = some 0) (hk : ns[k]? = some q) (hq : q ≠ 0) : outerN ns = q := by
  have := firstSc_at hz hk hq
  unfold firstSc at this
  unfold outerN
  obtain ⟨hkl, hv⟩ := List.getElem?_eq_some_iff.1 hk
  have hsplit : ns = ns.take k ++ q :: ns.drop (k + 1) := by rw [← hv, ← List.drop_eq_getElem_cons hkl, List.take_append_drop]
  rw [hsplit, List.find?_append, List.find?_eq_none.2]
  · simp [hq]
  · intro x hx
    obtain ⟨j, hj, rfl⟩ := List.getElem_of_mem hx
    have hj' : j < k := by simp at hj; omega
    have := hz j hj'
    rw [List.getElem?_eq_getElem (by omega)] at this
    simp at this
    simp [this]

theorem outerN_zero {ns : List Nat} (hz : ∀ j, j < ns.length → ns[j]? = some 0) : outerN ns = 0 := outerN_none (firstSc_none hz)

section
variable {K : Kap} {A : GAt} {G : GroveA} {w w' : World}

set_option maxRecDepth 100000 in
set_option maxHeartbeats 4000000 in
theorem gstrikeT (R : GRep K A G w) (I : InvG G) (n : Int) : Calls Try.prog 30 #[.pointer (some ⟨A.g, 0, none⟩), .int .i64 n] w (GEff K A w (G.strikeT n)) := by
  have F := I.fit
  have C1 := Lib.hid (gtree_some R)
  have C2 := Lib.hid (chain_any R.rep F.tree n)
  cases hr : G.tree.run? n with
  | none =>
    have hS : G.strikeT n = (G, [], 6) := by unfold GroveA.strikeT; rw [hr]
    rw [hS]
    rw [hr] at C2
    have HR := Lib.hid R
    clear R I F hr hS
    generalize (G.tree.chain n) = ls at *
    simp only [Option.isSome_none, Bool.false_eq_true, if_false] at C2
    go_enter Try.func30, Try.ntmps30
    go_wp2_with (first | (go_at_call 42; refine C1.out.mono ?_; rintro e w' ⟨rfl, rfl⟩) | (go_at_call 45; refine C2.out.mono ?_; rintro e w1 ⟨v, rfl, _, _, hb⟩; have hb := Lib.hid hb))
    go_returns
    exact ⟨_, rfl, K, A, rfl, HR.out.below hb.out, Ext.of_below hb.out, eown_nil _ _, fun b h => by cases h⟩
  | some i =>
    obtain ⟨hn, x, hx, hxr⟩ := TreeA.run?_some hr
    have hS : G.strikeT n = (G.strikeG false n, G.strikeE false n ((i + 1) :: G.tree.outerT n), 0) := by unfold GroveA.strikeT; rw [hr]
    have hO : G.tree.outerT n = if outerN x.opn = 0 then [] else belowN G.tree (G.tree.scopes.length + 1) (outerN x.opn - 1) := by unfold TreeA.outerT; rw [hr]; simp only [hx]
    rw [hS, hO]
    rw [hr] at C2
    simp only [Option.isSome_some, if_true] at C2
    obtain ⟨c0, c1, _, _⟩ := R.gcells
    have lg := R.grove.lt
    have hi64 : i < 64 := by have := (List.getElem?_eq_some_iff.1 hx).1; have := I.inv.nt; omega
    have CT : Hid (∀ W, Below w.heap.size w W → Calls _ _ _ W _) := fun W hW => task_ok (R.below hW).rep hx (I.inv.innLe hx) (I.inv.opnLe hx) (Nat.le_trans (I.inv.opnLen hx) (by omega)) (by omega)
    have CB : Hid (∀ (W : World) (q : Nat), Below w.heap.size w W → q ∈ x.opn → q ≠ 0 → Calls Try.prog 44 #[.pointer (some ⟨A.L.t, 0, none⟩), .int .i64 (q : Int)] W fun e w' => ∃ v, e = .returned (.tuple #[v, .int .i64 0]) ∧
        w'.ownsRow 0 3 1 v (belowN G.tree (G.tree.scopes.length + 1) (q - 1)).length ((belowN G.tree (G.tree.scopes.length + 1) (q - 1)).map intCell) ∧ Fresh W v ∧ Below W.heap.size W w') := fun W q hW hq h0 => by
      have hql := I.inv.opnLe hx q hq
      have hsc : G.tree.scope? (q : Int) = some (q - 1) := by
        unfold TreeA.scope?
        rw [if_pos (by omega)]
        congr 1
      exact belowT_ok (R.below hW).rep F.tree.down (fun j x hx => (F.tree.opn j x hx).2) F.tree.kids hsc (F.tree.below _)
    have STR : Hid (∀ (W : World) (gb cap m : Nat) (ns : List Nat), ns.length = m → m ≤ 500000 → Below w.heap.size w W → w.heap.size ≤ gb → W.ownsRow 0 3 1 (.slice (some ⟨gb, 0, none⟩) m cap) m (ns.map intCell) →
        Calls Try.prog 55 #[.pointer (some ⟨A.g, 0, none⟩), .map (some A.mt), .int .i64 n, .slice (some ⟨gb, 0, none⟩) m cap] W (GPost K A w (G.strikeG false n) (G.strikeE false n ns))) := fun W gb cap m ns hm h5 hb hg hrow => by
      subst hm
      exact (gstrike (R.below hb) F false n (by omega) (by omega) (R.gone hg) hrow h5).mono fun e w' h => h.out hb R.lt hg
    have hbl : Hid (∀ q, (belowN G.tree (G.tree.scopes.length + 1) (q - 1)).length ≤ 100000) := fun q => F.tree.below (q - 1)
    have hxl : x.opn.length ≤ 300 := I.inv.opnLen hx
    have HG := Lib.hid R.grove
    obtain ⟨rl, hrl⟩ : ∃ rl, rl = if outerN x.opn = 0 then [] else belowN G.tree (G.tree.scopes.length + 1) (outerN x.opn - 1) := ⟨_, rfl⟩
    rw [← hrl]
    have Hrl := Lib.hid hrl
    clear hrl
    subst hn
    clear R I F hr hS hO hx hxr
    generalize (G.tree.chain ((i : Int) + 1)) = ls at *
    generalize G.strikeG false ((i : Int) + 1) = G' at *
    generalize hbe : (fun q => belowN G.tree (G.tree.scopes.length + 1) (q - 1)) = be at *
    have Hbe : ∀ q, belowN G.tree (G.tree.scopes.length + 1) (q - 1) = be q := fun q => congrFun hbe q
    have Hbe := Lib.hid Hbe
    clear hbe
    generalize hm : x.opn.length = m at *
    have Hm := Lib.hid hm
    clear hm
    go_enter Try.func30, Try.ntmps30
    go_wp2_with (first | (go_at_call 42; refine C1.out.mono ?_; rintro e w' ⟨rfl, rfl⟩) | (go_at_call 45; refine C2.out.mono ?_; rintro e w1 ⟨v, rfl, hv, _, hb⟩; obtain ⟨ad0, cap0, rfl⟩ := owns_shape hv; clear hv; have hz1 := hb.size; have d0 := (hb.cell (p := ⟨A.g, 0, none⟩) lg).trans c0; have d1 := (hb.cell (p := ⟨A.g, 1, none⟩) lg).trans c1; have lg1 : A.g < w1.heap.size := Nat.lt_of_lt_of_le lg hz1; have hb := Lib.hid hb) | (go_at_call 43; refine (CT.out _ hb.out).mono ?_; rintro e w2 ⟨v2, rfl, hv2, hfr2, hb2⟩; obtain ⟨ad, cap, rfl⟩ := owns_shape hv2; have hz2 := hb2.size; have e0 := (hb2.cell (p := ⟨A.g, 0, none⟩) lg1).trans d0; have e1 := (hb2.cell (p := ⟨A.g, 1, none⟩) lg1).trans d1; have lg2 : A.g < w2.heap.size := Nat.lt_of_lt_of_le lg1 hz2; have hv2 := Lib.hid hv2; have hb2 := Lib.hid hb2; clear d0 d1 hfr2))
    have Hb02 : Hid (Below w.heap.size w w2) := hb.out.trans (hb2.out.mono hz1)
    have hW0 : Hid (∃ W0, W0 = (w2.alloc (.cells #[.int .i64 (x.inn : Int), .bool x.ended, .bool x.leaving, .int .i64 (toldFlt x).kind, .string (toldFlt x).text, .slice ad m cap] 32)).alloc (.cells #[.int .i64 ((i : Int) + 1)] 3)) := ⟨_, rfl⟩
    have hrow0 := World.ownsRow_lit (base := 0) (e := 3) (size := 1) (w2.alloc (.cells #[.int .i64 (x.inn : Int), .bool x.ended, .bool x.leaving, .int .i64 (toldFlt x).kind, .string (toldFlt x).text, .slice ad m cap] 32)) #[.int .i64 ((i : Int) + 1)] 1 (Nat.zero_le _) (by unfold maxLen; omega) rfl
    rw [World.size_alloc] at hrow0
    have hBl0 : Below w2.heap.size w2 ((w2.alloc (.cells #[.int .i64 (x.inn : Int), .bool x.ended, .bool x.leaving, .int .i64 (toldFlt x).kind, .string (toldFlt x).text, .slice ad m cap] 32)).alloc (.cells #[.int .i64 ((i : Int) + 1)] 3)) := ((Below.refl w2.heap.size w2).alloc (Nat.le_refl _) _).alloc (by simp) _
    have hsz0 : ((w2.alloc (.cells #[.int .i64 (x.inn : Int), .bool x.ended, .bool x.leaving, .int .i64 (toldFlt x).kind, .string (toldFlt x).text, .slice ad m cap] 32)).alloc (.cells #[.int .i64 ((i : Int) + 1)] 3)).heap.size = w2.heap.size + 2 := by simp
    generalize ((w2.alloc (.cells #[.int .i64 (x.inn : Int), .bool x.ended, .bool x.leaving, .int .i64 (toldFlt x).kind, .string (toldFlt x).text, .slice ad m cap] 32)).alloc (.cells #[.int .i64 ((i : Int) + 1)] 3)) = W0 at *
    have g0 := (hBl0.cell (p := ⟨A.g, 0, none⟩) lg2).trans e0
    have g1 := (hBl0.cell (p := ⟨A.g, 1, none⟩) lg2).trans e1
    have hvl := Lib.hid (owns_of (w' := W0) hv2.out (fun b hb => hBl0.block b (hv2.out.lt b hb).2))
    have HBl : Hid (Below w.heap.size w W0) := Hb02.out.trans (hBl0.mono Hb02.out.size)
    have hrow0 := Lib.hid hrow0
    have lg0 : A.g < W0.heap.size := by omega
    have hw0 : w.heap.size ≤ w2.heap.size := Hb02.out.size
    clear hW0 e0 e1 hv2 hb2 hb Hb02 hBl0
    go_loopw [10, 39] (fun u j wr => ∃ k : Nat, k ≤ m ∧ u = .slice (some ⟨w2.heap.size + 1, 0, none⟩) 1 1 ∧ j = .int .i64 (k : Int) ∧ Hid (∀ j, j < k → x.opn[j]? = some 0) ∧ Hid (Below W0.heap.size W0 wr)) (fun _ j _ => m - (intOf j).toNat)
    case atStart => exact ⟨0, Nat.zero_le _, rfl, rfl, (fun j hj => by omega), Below.refl _ _⟩
    case round =>
      obtain ⟨k, hk, rfl, rfl, HZ, HB⟩ := hrel
      have r0 := (HB.out.cell (p := ⟨A.g, 0, none⟩) lg0).trans g0
      have r1 := (HB.out.cell (p := ⟨A.g, 1, none⟩) lg0).trans g1
      have hzr := HB.out.size
      have lgr : A.g < wr.heap.size := Nat.lt_of_lt_of_le lg0 hzr
      by_cases hlt : k < m
      · obtain ⟨q, hq⟩ : ∃ q, x.opn[k]? = some q := ⟨_, List.getElem?_eq_getElem (by rw [Hm.out]; exact hlt)⟩
        obtain ⟨b, hb, hcap, lb, c0', c1'⟩ : ∃ b, ad = some ⟨b, 0, none⟩ ∧ m ≤ cap ∧ b < W0.heap.size ∧ W0.cell? ⟨b, k * 2, none⟩ = some (.int .i64 (lk q)) ∧ W0.cell? ⟨b, k * 2 + 1, none⟩ = some (.int .i64 (q : Int)) := by
          have hv := hvl.out
          obtain ⟨h1, h2⟩ := link_get x.opn k q hq
          have hll := link_len x.opn
          rw [Hm.out] at hll
          rcases hv.2 with ⟨_, h⟩ | ⟨b, cap', cur, h, _, hgg, hn', hm', _, _⟩
          · omega
          · injection h with q1 q2 q3
            subst q1 q3
            exact ⟨b, rfl, hn', (Array.getElem?_eq_some_iff.1 hgg).1, (hv.cellAt _ (by omega)).trans h1, (hv.cellAt _ (by omega)).trans h2⟩
        subst hb
        have s0 := (HB.out.cell (p := ⟨b, k * 2, none⟩) lb).trans c0'
        have s1 := (HB.out.cell (p := ⟨b, k * 2 + 1, none⟩) lb).trans c1'
        have lbr : b < wr.heap.size := Nat.lt_of_lt_of_le lb hzr
        have hcm : cap ≤ 9223372036854775807 := by
          have hv := hvl.out
          rcases hv.2 with ⟨h, _⟩ | ⟨b, cap', cur, h, _, hgg, hn', hm', _, _⟩
          · cases h
          · injection h with q1 q2 q3
            subst q3
            unfold maxLen at hm'
            omega
        have Hq := Lib.hid hq
        clear hq c0' c1'
        by_cases h0 : q = 0
        · subst h0
          have hlk : lk 0 = 3 := rfl
          rw [hlk] at s0
          clear hlk
          go_wp2
          go_roundw
          case rel => exact ⟨k + 1, by omega, rfl, by go_num, (fun j hj => by
            rcases Nat.lt_or_ge j k with h | h
            · exact HZ.out j h
            · obtain rfl : j = k := by omega
              exact Hq.out), HB.out.alloc hzr _⟩
          case measure => simp [intOf]; omega
        · have hlk : lk q = 2 := by unfold lk; rw [if_neg h0]
          rw [hlk] at s0
          have hrq : rl = be q := by
            rw [Hrl.out, outerN_first HZ.out Hq.out h0, if_neg h0]
            exact Hbe.out q
          have Hrq := Lib.hid hrq
          have CB2 := Lib.hid (fun W hW => CB.out W q hW (List.mem_of_getElem? Hq.out) h0)
          rw [show belowN G.tree (G.tree.scopes.length + 1) (q - 1) = be q from Hbe.out q] at CB2
          have hlq : (be q).length ≤ 100000 := by rw [← Hbe.out q]; exact hbl.out q
          clear hlk hrq h0
          generalize be q = bq at *
          go_wp2
          have Hbw : Hid (∀ o, Below w.heap.size w (wr.alloc o).drew) := fun o => (HBl.out.trans (HB.out.mono (by omega))).trans (((Below.refl w.heap.size wr).alloc (by omega) o).drew)
          have HGw : Hid (∀ o, Blk (wr.alloc o).drew A.g 88 _) := fun o => HG.out.of ((Hbw.out o).block A.g HG.out.lt)
          have HRd : Hid (∀ o, (wr.alloc o).drew.ownsRow 0 3 1 (.slice (some ⟨w2.heap.size + 1, 0, none⟩) 1 1) 1 [.int .i64 ((i : Int) + 1)]) := fun o => owns_of hrow0.out (fun b' hb' => by
            have hb0 := (hrow0.out.lt b' hb').2
            exact ((((Below.refl wr.heap.size wr).alloc (Nat.le_refl _) o).drew).block b' (Nat.lt_of_lt_of_le hb0 hzr)).trans (HB.out.block b' hb0))
          have lg4 : ∀ o, A.g < (wr.alloc o).drew.heap.size := fun o => (HGw.out o).lt
          have r1' : ∀ o, (wr.alloc o).drew.cell? ⟨A.g, 1, none⟩ = some (.map (some A.mt)) := fun o => (HGw.out o).cell 1 rfl
          go_region_law ((go_simp; go_at_call 44; refine (CB2.out _ (Hbw.out _)).mono ?_; rintro e w4 ⟨v4, rfl, hv4, hfr4, hb4⟩; obtain ⟨ad4, cap4, rfl⟩ := owns_shape hv4; have hz4 := hb4.size; have t1 := (hb4.cell (p := ⟨A.g, 1, none⟩) (lg4 _)).trans (r1' _); have hv4 := Lib.hid hv4; have hb4 := Lib.hid hb4))
          all_goals
            have hw24 : w2.heap.size + 2 ≤ w4.heap.size := by simp at hz4; omega
            have hrow4 : Hid (w4.ownsRow 0 3 1 (.slice (some ⟨w2.heap.size + 1, 0, none⟩) 1 1) 1 [.int .i64 ((i : Int) + 1)]) := owns_of (HRd.out _) (fun b' hb' => hb4.out.block b' ((HRd.out _).lt b' hb').2)
            have lg4' : A.g < w4.heap.size := by omega
            have lgn : some A.g ≠ some (w2.heap.size + 1) := fun e => by injection e with e; omega
            have h1i : Hid (∀ u ∈ bq.map intCell, u.oneCell' = true) := by
              intro u hu
              obtain ⟨z, _, rfl⟩ := List.mem_map.1 hu
              rfl
            have STR2 : Hid (∀ (W : World) (ad : Option Addr) (cap : Nat), w4.grownBy W (some (w2.heap.size + 1)) → ((Value.slice ad (1 + bq.length) cap).ownBlock = some (w2.heap.size + 1) ∨ (Value.slice ad (1 + bq.length) cap).ownBlock = some w4.heap.size) → W.ownsRow 0 3 1 (.slice ad (1 + bq.length) cap) (1 + bq.length) ([.int .i64 ((i : Int) + 1)] ++ bq.map intCell) →
                Calls Try.prog 55 #[.pointer (some ⟨A.g, 0, none⟩), .map (some A.mt), .int .i64 ((i : Int) + 1), .slice ad (1 + bq.length) cap] W (GPost K A w G' (G.strikeE false ((i : Int) + 1) ((i + 1) :: rl)))) := by
              intro W ad cap hg ho hrow
              have hB4 : Below w.heap.size w w4 := (Hbw.out _).trans (hb4.out.mono (Hbw.out _).size)
              have hBW : Below w.heap.size w W := hB4.grown hg hB4.size (fun b hb => by
                have : w2.heap.size + 1 = b := by simpa using hb
                omega)
              rcases hrow.2 with ⟨h, _⟩ | ⟨gb, cap', cur, h, _⟩
              · exfalso
                rcases Nat.eq_zero_or_pos (1 + bq.length) with h' | h'
                · omega
                · injection h with q1 q2 q3
                  subst q1
                  simp [Value.ownBlock] at ho
              · injection h with q1 q2 q3
                subst q1
                rw [Hrq.out]
                refine STR.out W gb cap (1 + bq.length) ((i + 1) :: bq) (by simp; omega) (by omega) hBW ?_ hrow
                rcases ho with ho | ho
                · have : gb = w2.heap.size + 1 := by simpa [Value.ownBlock] using ho
                  omega
                · have : gb = w4.heap.size := by simpa [Value.ownBlock] using ho
                  omega
            have Hl5 : Hid (1 + bq.length ≤ 1000000) := by unfold Hid; omega
            go_wp2_with (first | (at_builtin; refine wpList_extend rfl (.tmp 56) (.tmp 57) 26 rfl 3 1 8 _ Try.infoInt rfl (by omega) (by omega) Try.underlying26 (.slice (some ⟨w2.heap.size + 1, 0, none⟩) 1 1) 1 _ rfl hrow4.out (.slice ad4 bq.length cap4) bq.length _ rfl hv4.out h1i.out Hl5.out ?_; intro v5 w5 hown5 hgrow5 hat5; obtain ⟨ad5, cap5, rfl⟩ := owns_shape hown5; have x1 := hgrow5.cell t1 lgn; have hown5 := Lib.hid hown5; have hgrow5 := Lib.hid hgrow5; have hat5 := Lib.hid hat5) | (go_at_call 55; refine (STR2.out _ _ _ hgrow5.out hat5.out hown5.out).mono ?_; rintro e w6 ⟨v6, rfl, h6⟩; have h6 := Lib.hid h6))
            go_returns
            obtain ⟨R5, EO5, Fr5, E5⟩ := h6.out
            exact ⟨_, rfl, K, A, rfl, R5, E5, EO5, Fr5⟩
      · obtain rfl : k = m := by omega
        have hrq : rl = [] := by
          rw [Hrl.out, outerN_zero (fun j hj => HZ.out j (by rw [← Hm.out]; exact hj)), if_pos rfl]
        have Hrq := Lib.hid hrq
        have HR := Lib.hid (owns_of (w' := wr) hrow0.out (fun b' hb' => HB.out.block b' (hrow0.out.lt b' hb').2))
        have CS := Lib.hid (STR.out wr (w2.heap.size + 1) 1 1 [i + 1] rfl (by omega) (HBl.out.trans (HB.out.mono (by omega))) (by omega) HR.out)
        clear hrq
        go_wp2_with (go_at_call 55; refine CS.out.mono ?_; rintro e w5 ⟨v5, rfl, h5⟩; have h5 := Lib.hid h5)
        go_returns
        rw [Hrq.out]
        obtain ⟨R5, EO5, Fr5, E5⟩ := h5.out
        exact ⟨_, rfl, K, A, rfl, R5, E5, EO5, Fr5⟩

end
end Go.Proofs.Ytoonkidlbnndcaa
