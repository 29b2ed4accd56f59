/-
  The running tasks below a scope: (*Tree).Below.
-/
import Derived.Test.YtoonkidlbnndcaaChain
import Derived.Test.YtoonkidlbnndcaaScopeT
namespace Go.Proofs.Ytoonkidlbnndcaa
set_option linter.unusedVariables false
set_option linter.unusedSimpArgs false
open Go.RowKit

def kidB (T : TreeA) (r : Nat → List Nat) (m : Nat) : List Nat := match T.tasks[m - 1]? with
  | none => []
  | some x => if x.ended then [] else m :: (if outerN x.opn = 0 then [] else r (outerN x.opn - 1))
def lateB (T : TreeA) (r : Nat → List Nat) (j : Nat) (s : ScopeA) : List Nat := match T.tasks[s.owner - 1]? with
  | none => []
  | some y => match placeOf (j + 1) y.opn with
    | none => []
    | some k => if outerN (y.opn.drop (k + 1)) = 0 then [] else r (outerN (y.opn.drop (k + 1)) - 1)
/-- The running tasks below scope j. -/
def belowN (T : TreeA) : Nat → Nat → List Nat
  | 0, _ => []
  | f + 1, j => match T.scopes[j]? with
    | none => []
    | some s => s.kids.flatMap (kidB T (belowN T f)) ++ lateB T (belowN T f) j s

/-- What is opened within a scope, or behind it, has a greater number. -/
structure DownOk (T : TreeA) : Prop where
  kid : ∀ (j : Nat) (s : ScopeA), T.scopes[j]? = some s → ∀ m ∈ s.kids, 1 ≤ m ∧ m ≤ T.tasks.length ∧ ∀ x, T.tasks[m - 1]? = some x → x.ended = false → ∀ q ∈ x.opn, q ≠ 0 → j + 1 < q
  own : ∀ (j : Nat) (s : ScopeA), T.scopes[j]? = some s → ∃ (o : Nat) (y : TaskA), s.owner = o + 1 ∧ T.tasks[o]? = some y ∧ ∀ k, placeOf (j + 1) y.opn = some k → k < y.opn.length ∧ ∀ q ∈ y.opn.drop (k + 1), q ≠ 0 → j + 1 < q

theorem outerN_mem {ns : List Nat} (h : outerN ns ≠ 0) : outerN ns ∈ ns := by
  unfold outerN at h ⊢
  cases hf : ns.find? (· != 0) with
  | none => rw [hf] at h; exact absurd rfl h
  | some q => exact List.mem_of_find?_eq_some hf

/-- The two boxes: the list, and the closure that walks. -/
def BW (m : Nat) (W : World) (acc : List Nat) : Prop :=
  (∃ v, Blk W m 26 #[v] ∧ W.ownsRow 0 3 1 v acc.length (acc.map intCell) ∧ ∀ b, v.ownBlock = some b → m + 2 ≤ b) ∧
  Blk W (m + 1) 117 #[.func (.func 71) #[] #[.pointer (some ⟨m, 0, none⟩), .pointer (some ⟨m + 1, 0, none⟩)]]

section
variable {κ κ' : Kap} {L : Lay} {T : TreeA} {w w' : World}

theorem BW.below {m : Nat} {W W' : World} {acc : List Nat} (h : BW m W acc) (hb : Below W.heap.size W W') : BW m W' acc := by
  obtain ⟨⟨v, h1, h2, h3⟩, h4⟩ := h
  exact ⟨⟨v, h1.below hb, owns_of h2 (fun b hb' => hb.block b (h2.lt b hb').2), h3⟩, h4.below hb⟩

theorem BW.push {m n p : Nat} {w6 : World} {v0 : Value} {g2 cap2 : Nat} {acc : List Nat} (hO : Blk w6 m 26 #[v0])
    (hB : Blk w6 (m + 1) 117 #[.func (.func 71) #[] #[.pointer (some ⟨m, 0, none⟩), .pointer (some ⟨m + 1, 0, none⟩)]])
    (hown : w6.ownsRow 0 3 1 (.slice (some ⟨g2, 0, none⟩) (n + 1) cap2) (n + 1) (acc.map intCell ++ [.int .i64 ((p : Int) + 1)])) (hn : n = acc.length) (hg2 : m + 2 ≤ g2) :
    BW m (w6.setCell ⟨m, 0, none⟩ (.slice (some ⟨g2, 0, none⟩) (n + 1) cap2)) (acc ++ [p + 1]) := by
  subst hn
  refine ⟨⟨_, hO.set_ 0 _, ?_, fun b hb => ?_⟩, hB.far (fun (e : m + 1 = m) => by omega) _⟩
  · rw [List.length_append, List.map_append]
    exact ownsRow_setCell_other hown (by simp [Value.ownBlock]; omega) _
  · have hb : g2 = b := by simpa [Value.ownBlock] using hb
    omega

theorem belowT_nil (n : Int) (w : World) : Calls Try.prog 44 #[.pointer none, .int .i64 n] w fun e w' => e = .returned (.tuple #[.slice none 0 0, .int .i64 2]) ∧ w = w' := by
  go_enter Try.func44, Try.ntmps44
  go_wp2_with (go_at_call 70; refine (scope_nil _ _).mono ?_; rintro e w' ⟨rfl, rfl⟩)
  go_returns
  exact ⟨rfl, rfl⟩
theorem belowT_none (R : Rep κ L T w) {n : Int} (h : T.scope? n = none) :
    Calls Try.prog 44 #[.pointer (some ⟨L.t, 0, none⟩), .int .i64 n] w fun e w' => e = .returned (.tuple #[.slice none 0 0, .int .i64 6]) ∧ w = w' := by
  have C := Lib.hid (scope_none R h)
  clear R h
  go_enter Try.func44, Try.ntmps44
  go_wp2_with (go_at_call 70; refine C.out.mono ?_; rintro e w' ⟨rfl, rfl⟩)
  go_returns
  exact ⟨rfl, rfl⟩

set_option maxRecDepth 100000 in
set_option maxHeartbeats 4000000 in
theorem below1 (R : Rep κ L T w) (D : DownOk T) (hopn : ∀ (i : Nat) (x : TaskA), T.tasks[i]? = some x → ∀ n ∈ x.opn, n ≤ T.scopes.length) (hkl : ∀ (j : Nat) (s : ScopeA), T.scopes[j]? = some s → s.kids.length ≤ 1000) :
    ∀ (f j : Nat), T.scopes.length < j + f → j < T.scopes.length → ∀ (acc : List Nat) (W : World), Below w.heap.size w W → BW w.heap.size W acc → acc.length + (belowN T f j).length ≤ 100000 →
      Calls Try.prog 71 #[.pointer (some ⟨L.sb j, 0, none⟩), .pointer (some ⟨w.heap.size, 0, none⟩), .pointer (some ⟨w.heap.size + 1, 0, none⟩)] W fun e W' =>
        (∃ v, e = .returned v) ∧ BW w.heap.size W' (acc ++ belowN T f j) ∧ Below w.heap.size w W' := by
  intro f
  induction f with
  | zero => intro j h1 h2; omega
  | succ f ih =>
    intro j hf hj acc W hW hBW hlen
    have IH := Lib.hid ih
    have hs : T.scopes[j]? = some (T.scopes[j]'hj) := List.getElem?_eq_getElem hj
    generalize T.scopes[j]'hj = s at hs
    obtain ⟨_, d1, _, _, d4, _⟩ := R.scells hs
    obtain ⟨o, y, ho, hy, hlate⟩ := D.own j s hs
    rw [ho, Lay.tp_succ] at d1
    have lsj := (R.scope j s hs).lt
    have lto := (R.task o y hy).lt
    obtain ⟨_, _, t2, _⟩ := R.tcells hy
    have hbel : belowN T (f + 1) j = s.kids.flatMap (kidB T (belowN T f)) ++ lateB T (belowN T f) j s := by
      conv => lhs; unfold belowN
      rw [hs]
    have d1' := (hW.cell (p := ⟨L.sb j, 1, none⟩) lsj).trans d1
    have d4' := (hW.cell (p := ⟨L.sb j, 4, none⟩) lsj).trans d4
    have lsj' : L.sb j < W.heap.size := Nat.lt_of_lt_of_le lsj hW.size
    have HR := Lib.hid R
    have HD := Lib.hid D
    have Hs := Lib.hid hs
    have Hopn := Lib.hid hopn
    have HWB := Lib.hid hW
    have HBW := Lib.hid hBW
    have Hlen := Lib.hid hlen
    have Hbel := Lib.hid hbel
    have Hlate := Lib.hid hlate
    have Hy := Lib.hid hy
    have Hho := Lib.hid ho
    have Hd1 := Lib.hid d1
    have Ht2 := Lib.hid t2
    have hkl1 := hkl j s hs
    have HK := Lib.hid (owns_form (R.kid j s hs))
    obtain ⟨ad, cap, hkv, hcap, hcm⟩ := owns_len (R.kid j s hs)
    rw [hkv] at d4' HK
    have HX : Hid (∀ W', Below w.heap.size w W' → Calls Try.prog 73 #[L.ov o, .pointer (some ⟨L.sb j, 0, none⟩)] W' fun e w' => e = .returned (.int .i64 (idxInt (placeOf (j + 1) y.opn))) ∧ W' = w') := fun W' hW' =>
      index_sc (R.below hW') (Row.of_owns ((R.below hW').opn o y hy)) hj (hopn o y hy)
    have OUT : Hid (∀ W' (ns : List Nat) (v : Value), Row W' v (ns.map L.sp) → Calls Try.prog 72 #[v] W' fun e w' => e = .returned (L.sp (outerN ns)) ∧ W' = w') := fun W' ns v h => outer_sc h
    have HOV := Lib.hid (owns_form (R.opn o y hy))
    have Hhf := Lib.hid hf
    have hsplit : acc.length + (s.kids.flatMap (kidB T (belowN T f))).length + (lateB T (belowN T f) j s).length ≤ 100000 := by
      have := hlen
      rw [hbel, List.length_append] at this
      omega
    have Hsplit := Lib.hid hsplit
    have Hdk := Lib.hid (D.kid j s hs)
    clear R D hs hopn hW hBW hlen hbel hlate hy ho d1 d4 d1' t2 hkl ih hf hsplit
    generalize hm' : s.kids.length = m at *
    have Hm := Lib.hid hm'
    clear hm' hkv
    go_enter Try.func71, Try.ntmps71
    go_wp2
    go_loopw [14] (fun i wr => ∃ k : Nat, k ≤ m ∧ i = .int .i64 k ∧ Hid (BW w.heap.size wr (acc ++ (s.kids.take k).flatMap (kidB T (belowN T f)))) ∧ Hid (Below w.heap.size w wr)) (fun i _ => m - (intOf i).toNat)
    case atStart => exact ⟨0, Nat.zero_le _, rfl, by simpa [Hid] using HBW.out, HWB⟩
    case round =>
      obtain ⟨k, hk, rfl, HB1, HW1⟩ := hrel
      by_cases hlt : k < m
      · have hkl : k < s.kids.length := by rw [Hm.out]; exact hlt
        rcases HK.out with ⟨_, h0, _⟩ | ⟨ob, ocap, hkv, hocap, hocm, lob, hoc, _⟩
        · omega
        injection hkv with hk1 hk2 hk3
        subst hk1 hk3
        have hcell := (HW1.out.cell (p := ⟨ob, k, none⟩) lob).trans (hoc k hlt)
        rw [List.getElem?_map, List.getElem?_eq_getElem hkl, Option.map_some] at hcell
        obtain ⟨hk1, hk2, hk3⟩ := Hdk.out _ (List.getElem_mem hkl)
        obtain ⟨q, hq⟩ : ∃ q, s.kids[k] = q + 1 := ⟨s.kids[k] - 1, by omega⟩
        rw [hq, Lay.tp_succ] at hcell
        have hql : q < T.tasks.length := by omega
        have hx : T.tasks[q]? = some (T.tasks[q]'hql) := List.getElem?_eq_getElem hql
        generalize T.tasks[q]'hql = x at hx
        obtain ⟨x0, _, x2, _, x4, _⟩ := HR.out.tcells hx
        have lx := (HR.out.task q x hx).lt
        have htake : (s.kids.take (k + 1)).flatMap (kidB T (belowN T f)) = (s.kids.take k).flatMap (kidB T (belowN T f)) ++ kidB T (belowN T f) (q + 1) := by
          rw [List.take_succ_eq_append_getElem hkl, List.flatMap_append, hq]
          simp
        have hkid : kidB T (belowN T f) (q + 1) = if x.ended then [] else (q + 1) :: (if outerN x.opn = 0 then [] else belowN T f (outerN x.opn - 1)) := by
          unfold kidB
          rw [Nat.add_sub_cancel, hx]
        have hsub : ((s.kids.take k).flatMap (kidB T (belowN T f))).length + (kidB T (belowN T f) (q + 1)).length ≤ (s.kids.flatMap (kidB T (belowN T f))).length := by
          have h1 : s.kids.flatMap (kidB T (belowN T f)) = (s.kids.take (k + 1)).flatMap (kidB T (belowN T f)) ++ (s.kids.drop (k + 1)).flatMap (kidB T (belowN T f)) := by
            rw [← List.flatMap_append, List.take_append_drop]
          rw [h1, htake]
          simp only [List.length_append]
          omega
        have x0' := (HW1.out.cell (p := ⟨L.tb q, 0, none⟩) lx).trans x0
        have x4' := (HW1.out.cell (p := ⟨L.tb q, 4, none⟩) lx).trans x4
        have lx' : L.tb q < wr.heap.size := Nat.lt_of_lt_of_le lx HW1.out.size
        have lob' : ob < wr.heap.size := Nat.lt_of_lt_of_le lob HW1.out.size
        have Htake := Lib.hid htake
        have Hkid := Lib.hid hkid
        have Hsub := Lib.hid hsub
        have Hx := Lib.hid hx
        have Hx2 := Lib.hid x2
        have Hk3 := Lib.hid (hk3 x (by rw [hq, Nat.add_sub_cancel]; exact hx))
        clear htake hkid hsub hx x2 hk3 x0 x4 hoc hq HK hk1 hk2
        generalize he : x.ended = en at *
        have He := Lib.hid he
        clear he
        cases en with
        | true =>
          go_wp2
          go_roundw
          case rel =>
            refine ⟨k + 1, by omega, by go_num, ?_, HW1⟩
            rw [Htake.out, Hkid.out, if_pos rfl, List.append_nil]
            exact HB1
          case measure => simp [intOf]; omega
        | false =>
          rw [if_neg (by simp)] at Hkid
          obtain ⟨⟨v, hO, hvo, hvb⟩, hWk⟩ := HB1.out
          obtain ⟨acc1, hacc1⟩ : ∃ a, a = acc ++ (s.kids.take k).flatMap (kidB T (belowN T f)) := ⟨_, rfl⟩
          rw [← hacc1] at hvo
          have hl1 : acc1.length + (kidB T (belowN T f) (q + 1)).length ≤ 100000 := by
            have h1 := Hsub.out
            have h2 := Hsplit.out
            rw [hacc1, List.length_append]
            omega
          have hl2 : acc1.length ≤ 1000000 := by omega
          have o5 : wr.cell? ⟨w.heap.size, 0, none⟩ = some v := hO.cell 0 rfl
          have f5 := hO.frozen 0
          have hszr : w.heap.size + 1 < wr.heap.size := hWk.lt
          have hszr0 : w.heap.size < wr.heap.size := by omega
          have HO : Hid (Blk wr.drew w.heap.size 26 #[v]) := hO
          have Hvo : Hid (wr.drew.ownsRow 0 3 1 v acc1.length (acc1.map intCell)) := hvo
          have HWk : Hid (Blk wr.drew (w.heap.size + 1) 117 _) := hWk
          have Hvb := Lib.hid hvb
          have HBB : Hid (Below w.heap.size w wr.drew) := HW1.out.trans ((Below.refl w.heap.size wr).drew)
          have Hacc1 := Lib.hid hacc1
          have Hl1 := Lib.hid hl1
          generalize hn1 : acc1.length = n1 at Hvo hl2
          have Hn1 := Lib.hid hn1
          have Hl2 := Lib.hid hl2
          clear hO hvo hWk hvb HB1 HW1 hacc1 hl1 hn1 hl2
          go_wp2
          go_region_law (refine step_push rfl (.tmp 22) (.tmp 27) 26 rfl 3 1 8 _ Try.infoInt rfl (by omega) (by omega) Try.underlying26 v n1 _ rfl (Hvo.out.alloc _) [.int .i64 ((q : Int) + 1)] ⟨wr.heap.size, 0, none⟩ rfl (cells_new_at wr.drew #[.int .i64 ((q : Int) + 1)] _) rfl (by simp [Value.oneCell']) Hl2.out ?_; intro g2 cap2 w6 hown6 hgrow6 hat6; have hO6 := Lib.hid ((HO.out.alloc (.cells #[.int .i64 ((q : Int) + 1)] 3)).grown hgrow6 (fun h => by have := Hvb.out _ h; omega)); have hk6 := Lib.hid ((HWk.out.alloc (.cells #[.int .i64 ((q : Int) + 1)] 3)).grown hgrow6 (fun h => by have := Hvb.out _ h; omega)); have o6 : w6.cell? ⟨w.heap.size, 0, none⟩ = some v := hO6.out.cell 0 rfl; have f6 : w6.frozen? ⟨w.heap.size, 0, none⟩ = false := hO6.out.frozen 0; have hown6 := Lib.hid hown6; have hgrow6 := Lib.hid hgrow6; have hat6 := Lib.hid hat6)
          all_goals
            have hszd : w.heap.size ≤ wr.drew.heap.size := Nat.le_of_lt (Nat.lt_of_succ_lt hszr)
            have hg2 : w.heap.size + 2 ≤ g2 := by
              rcases hat6.out with h | h
              · exact Hvb.out _ h
              · simp at h; omega
            have hBW2 : BW w.heap.size (w6.setCell ⟨w.heap.size, 0, none⟩ (.slice (some ⟨g2, 0, none⟩) (n1 + 1) cap2)) (acc1 ++ [q + 1]) := BW.push hO6.out hk6.out hown6.out Hn1.out.symm hg2
            have hW2 : Below w.heap.size w (w6.setCell ⟨w.heap.size, 0, none⟩ (.slice (some ⟨g2, 0, none⟩) (n1 + 1) cap2)) := (HBB.out.trans (((Below.refl w.heap.size wr.drew).alloc hszd _).grown hgrow6.out (by simp; omega) (fun b hb => by have := Hvb.out _ hb; omega))).setCell (p := ⟨w.heap.size, 0, none⟩) (Nat.le_refl _) _
            generalize w6.setCell ⟨w.heap.size, 0, none⟩ (.slice (some ⟨g2, 0, none⟩) (n1 + 1) cap2) = W2 at hBW2 hW2 ⊢
            have x2' := (hW2.cell (p := ⟨L.tb q, 2, none⟩) lx).trans Hx2.out
            have lx2 : L.tb q < W2.heap.size := Nat.lt_of_lt_of_le lx hW2.size
            have wk := hBW2.2.cell 0 rfl
            have lwk := hBW2.2.lt
            have C2 := Lib.hid (OUT.out W2 x.opn (L.ov q) (Row.of_owns ((HR.out.below hW2).opn q x Hx.out)))
            have HW2 := Lib.hid hW2
            have HBW2 := Lib.hid hBW2
            clear hBW2 hW2 o6 f6
            by_cases h0 : outerN x.opn = 0
            · rw [h0, Lay.sp_zero] at C2
              rw [if_pos h0] at Hkid
              clear h0
              go_wp2_with (go_at_call 72; refine C2.out.mono ?_; rintro e w' ⟨rfl, rfl⟩)
              go_roundw
              case rel =>
                refine ⟨k + 1, by omega, by go_num, ?_, HW2⟩
                rw [Htake.out, Hkid.out, ← List.append_assoc, ← Hacc1.out]
                exact HBW2
              case measure => simp [intOf]; omega
            · obtain ⟨j', hj'⟩ : ∃ j', outerN x.opn = j' + 1 := ⟨outerN x.opn - 1, by omega⟩
              have hmem := outerN_mem h0
              rw [if_neg h0, hj', Nat.add_sub_cancel] at Hkid
              have h1 : j + 1 < j' + 1 := by rw [← hj']; exact Hk3.out (by simp) _ hmem h0
              have h2 : j' + 1 ≤ T.scopes.length := by rw [← hj']; exact Hopn.out q x Hx.out _ hmem
              have h3 : (acc1 ++ [q + 1]).length + (belowN T f j').length ≤ 100000 := by
                have := Hl1.out
                rw [Hkid.out] at this
                simp only [List.length_cons, List.length_append, List.length_nil] at this ⊢
                omega
              have I1 := Lib.hid (IH.out j' (by have := Hhf.out; omega) (by omega) _ W2 HW2.out HBW2.out h3)
              rw [hj', Lay.sp_succ] at C2
              clear h0 hj' hmem h1 h2 h3
              go_wp2_with (first | (go_at_call 72; refine C2.out.mono ?_; rintro e w' ⟨rfl, rfl⟩) | (go_at_call 71; refine I1.out.mono ?_; rintro e w3 ⟨⟨rv, rfl⟩, hb3, hw3⟩; have hb3 := Lib.hid hb3; have hw3 := Lib.hid hw3))
              go_roundw
              case rel =>
                refine ⟨k + 1, by omega, by go_num, ?_, hw3⟩
                rw [Htake.out, Hkid.out, ← List.append_assoc, ← Hacc1.out, List.append_cons]
                exact hb3
              case measure => simp [intOf]; omega
      · obtain rfl : k = m := by omega
        rw [List.take_of_length_le (by rw [Hm.out]; exact Nat.le_refl _)] at HB1
        have d1'' := (HW1.out.cell (p := ⟨L.sb j, 1, none⟩) lsj).trans Hd1.out
        have t2'' := (HW1.out.cell (p := ⟨L.tb o, 2, none⟩) lto).trans Ht2.out
        have lj2 : L.sb j < wr.heap.size := Nat.lt_of_lt_of_le lsj HW1.out.size
        have CX := Lib.hid (HX.out wr HW1.out)
        have hlb : lateB T (belowN T f) j s = match placeOf (j + 1) y.opn with
            | none => []
            | some k => if outerN (y.opn.drop (k + 1)) = 0 then [] else belowN T f (outerN (y.opn.drop (k + 1)) - 1) := by
          unfold lateB
          rw [Hho.out, Nat.add_sub_cancel, Hy.out]
        cases hp : placeOf (j + 1) y.opn with
        | none =>
          rw [hp] at CX hlb
          simp only [idxInt] at CX hlb
          have Hlb := Lib.hid hlb
          clear hp hlb
          go_wp2_with (go_at_call 73; refine CX.out.mono ?_; rintro e w' ⟨rfl, rfl⟩)
          go_returns
          refine ⟨⟨_, rfl⟩, ?_, HW1.out⟩
          rw [Hbel.out, Hlb.out, List.append_nil]
          exact HB1
        | some kk =>
          rw [hp] at CX hlb
          simp only [idxInt] at CX hlb
          obtain ⟨hkk, hqq⟩ := Hlate.out kk hp
          rcases HOV.out with ⟨_, h0, _⟩ | ⟨g, ocap, hov, hocap, hocm, lg, hoc, _⟩
          · omega
          rw [hov] at t2'' CX
          have hrow : Row wr (.slice (if ocap = kk + 1 then some ⟨g, 0, none⟩ else some ⟨g, kk + 1, none⟩) (y.opn.length - (kk + 1)) (ocap - (kk + 1))) ((y.opn.drop (kk + 1)).map L.sp) := by
            by_cases hc : ocap = kk + 1
            · rw [if_pos hc]
              refine .inl ⟨_, _, by rw [show y.opn.length - (kk + 1) = 0 by omega], by omega, ?_⟩
              rw [List.drop_eq_nil_of_le (by omega)]
              rfl
            · rw [if_neg hc]
              refine .inr ⟨g, kk + 1, ocap - (kk + 1), by rw [List.length_map, List.length_drop], by rw [List.length_map, List.length_drop]; omega, by omega, Nat.lt_of_lt_of_le lg HW1.out.size, fun i hi => ?_⟩
              rw [List.length_map, List.length_drop] at hi
              rw [(HW1.out.cell (p := ⟨g, kk + 1 + i, none⟩) lg), hoc _ (by omega), List.getElem?_map, List.getElem?_map, List.getElem?_drop]
          have C2 := Lib.hid (OUT.out wr _ _ hrow)
          have Hlb := Lib.hid hlb
          have Hqq := Lib.hid hqq
          clear hp hlb hqq hrow hoc hov
          have e1 : IntKind.i64.wrap ((kk : Int) + 1) = ((kk + 1 : Nat) : Int) := by unfold maxLen at hocm; rw [IntWalk.i64_in _ (by omega)]; omega
          have hlo : kk + 1 ≤ y.opn.length := by omega
          have hlt2 : L.tb o < wr.heap.size := Nat.lt_of_lt_of_le lto HW1.out.size
          have hle2 : kk + 1 ≤ ocap := by omega
          have hm2 : ocap ≤ 9223372036854775807 := by unfold maxLen at hocm; omega
          generalize hyl : y.opn.length = yl at *
          have wk := HB1.out.2.cell 0 rfl
          have lwk := HB1.out.2.lt
          by_cases h0 : outerN (y.opn.drop (kk + 1)) = 0
          · rw [h0, Lay.sp_zero] at C2
            rw [if_pos h0] at Hlb
            clear h0 hyl
            go_wp2_with (first | (go_at_call 73; refine CX.out.mono ?_; rintro e w' ⟨rfl, rfl⟩) | (go_at_call 72; refine C2.out.mono ?_; rintro e w' ⟨rfl, rfl⟩))
            all_goals
              go_returns
              refine ⟨⟨_, rfl⟩, ?_, HW1.out⟩
              rw [Hbel.out, Hlb.out, List.append_nil]
              exact HB1
          · obtain ⟨j', hj'⟩ : ∃ j', outerN (y.opn.drop (kk + 1)) = j' + 1 := ⟨outerN (y.opn.drop (kk + 1)) - 1, by omega⟩
            have hmem := outerN_mem h0
            rw [if_neg h0, hj', Nat.add_sub_cancel] at Hlb
            have h1 : j + 1 < j' + 1 := by rw [← hj']; exact Hqq.out _ hmem h0
            have h2 : j' + 1 ≤ T.scopes.length := by rw [← hj']; exact Hopn.out o y Hy.out _ (List.mem_of_mem_drop hmem)
            have h3 : (acc ++ s.kids.flatMap (kidB T (belowN T f))).length + (belowN T f j').length ≤ 100000 := by
              have := Hsplit.out
              rw [Hlb.out] at this
              simp only [List.length_append] at this ⊢
              omega
            have I1 := Lib.hid (IH.out j' (by have := Hhf.out; omega) (by omega) _ wr HW1.out HB1.out h3)
            rw [hj', Lay.sp_succ] at C2
            clear h0 hj' hmem h1 h2 h3 hyl
            go_wp2_with (first | (go_at_call 73; refine CX.out.mono ?_; rintro e w' ⟨rfl, rfl⟩) | (go_at_call 72; refine C2.out.mono ?_; rintro e w' ⟨rfl, rfl⟩) | (go_at_call 71; refine I1.out.mono ?_; rintro e w3 ⟨⟨rv, rfl⟩, hb3, hw3⟩; have hb3 := Lib.hid hb3; have hw3 := Lib.hid hw3))
            all_goals
              go_returns
              refine ⟨⟨_, rfl⟩, ?_, hw3.out⟩
              rw [Hbel.out, Hlb.out, ← List.append_assoc]
              exact hb3.out

end
end Go.Proofs.Ytoonkidlbnndcaa
