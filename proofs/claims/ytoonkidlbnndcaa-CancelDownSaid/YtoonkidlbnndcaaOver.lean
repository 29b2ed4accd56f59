/-
  (*Grove).over.
-/
import Derived.Test.YtoonkidlbnndcaaTurned
import Derived.Test.YtoonkidlbnndcaaHeap4
namespace Go.Proofs.Ytoonkidlbnndcaa
set_option linter.unusedVariables false
set_option linter.unusedSimpArgs false
open Go.RowKit

def TreeA.isOver (T : TreeA) (n : Int) : Bool := match T.scopes[n.toNat - 1]? with
  | some s => s.over
  | none => false
/-- The first deadlines that are of scopes that are over are removed. -/
def GroveA.overG (G : GroveA) : GroveA := { G with dues := G.dues.dropWhile (fun d => G.tree.isOver d.2) }

theorem Kap.join_self {K : Kap} {p : Tag → Bool} {n : Nat} (hlt : ∀ b t, K b = some t → b < n) : K.join ((K.on p).on p) n = K := by
  funext b
  by_cases h : b < n
  · exact Kap.join_lt h
  · rw [Kap.join_ge (by omega), Kap.on_on]
    rcases e : K b with _ | t
    · exact Kap.on_none e
    · exact absurd (hlt b t e) h

section
variable {K : Kap} {A : GAt} {G : GroveA} {w w' : World}

/-- The deadlines lie anew where they may. -/
theorem GRep.duesSame (R : GRep K A G w) {dv' : Value} {arr' ds' : List (Int × Int)} (E : Ext (K.on Tag.ofDues) (K.on Tag.ofDues) w w') (D : DRep A.g (.pointer (some ⟨A.L.t, 0, none⟩)) (.map (some A.mt)) (.map (some A.ms)) dv' arr' w') (hp : arr'.Perm ds') (ho : HeapOk arr')
    (hd : ∀ b, dv'.ownBlock = some b → K.on Tag.ofDues b = some .due) : GRep K { A with dv := dv' } { G with dues := ds' } w' ∧ Ext K K w w' := by
  have hl : ∀ b t, (K.on Tag.ofDues) b = some t → b < w'.heap.size := fun b t h => Nat.lt_of_lt_of_le (R.lt b t (Kap.on_some h).1) E.size
  have h1 := R.duesStep E hl D.blk D.row hp ho hd
  have h2 := E.lift
  rw [Kap.join_self R.lt] at h1 h2
  exact ⟨h1, h2⟩

theorem GRep.drep (R : GRep K A G w) : ∃ arr, DRep A.g (.pointer (some ⟨A.L.t, 0, none⟩)) (.map (some A.mt)) (.map (some A.ms)) A.dv arr w ∧ arr.Perm G.dues ∧ HeapOk arr := by
  obtain ⟨arr, h1, h2, h3⟩ := R.dues
  exact ⟨arr, ⟨R.grove, h1⟩, h2, h3⟩

/-- The first of a heap is not behind any. -/
theorem heap_first {arr : List (Int × Int)} (H : HeapOk arr) {d : Int × Int} (h0 : arr[0]? = some d) : ∀ (i : Nat) (x : Int × Int), arr[i]? = some x → dueLe d x := by
  intro i
  induction i using Nat.strongRecOn with
  | _ i ih =>
    intro x hx
    by_cases e : i = 0
    · subst e
      rw [h0] at hx
      cases hx
      exact dueLe_refl d
    · obtain ⟨y, hy⟩ : ∃ y, arr[(i - 1) / 2]? = some y := ⟨_, List.getElem?_eq_getElem (by have := (List.getElem?_eq_some_iff.1 hx).1; omega)⟩
      exact dueLe_trans (ih _ (by omega) y hy) (H i y x (by omega) hx hy)

theorem dueLe_antisymm {a b : Int × Int} (h : dueLe a b) (k : dueLe b a) : a = b := by
  unfold dueLe at *
  exact Prod.ext (by omega) (by omega)

/-- The first of the heap is the first of the sorted list. -/
theorem heap_head {arr ds : List (Int × Int)} (H : HeapOk arr) (hp : arr.Perm ds) (hs : ds.Pairwise dueLe) {d : Int × Int} {l : List (Int × Int)} (hd : ds = d :: l) : arr[0]? = some d := by
  subst hd
  have hl := hp.length_eq
  obtain ⟨x, hx⟩ : ∃ x, arr[0]? = some x := ⟨_, List.getElem?_eq_getElem (by rw [hl]; simp)⟩
  have hxm : x ∈ d :: l := hp.mem_iff.1 (List.mem_of_getElem? hx)
  have hdm : d ∈ arr := hp.mem_iff.2 (by simp)
  obtain ⟨i, hi⟩ := List.getElem?_of_mem hdm
  have h1 := heap_first H hx i d hi
  have h2 : dueLe d x := by
    rcases List.mem_cons.1 hxm with rfl | h
    · exact dueLe_refl _
    · exact (List.pairwise_cons.1 hs).1 x h
  rw [hx, dueLe_antisymm h1 h2]

theorem FitG.dues_len (F : FitG G) : G.dues.length ≤ 200 := by
  have h := nodup_int (m := 200) F.once (fun n hn => by
    obtain ⟨d, hd, rfl⟩ := List.mem_map.1 hn
    have h1 := F.valid d hd
    have h2 := F.tree.scopes
    omega)
  simpa using h

def zeroSt : Array Value := #[.int .i64 0, .bool false, .bool false, .slice none 0 0, .int .i64 0, .string ⟨#[]⟩]

set_option maxRecDepth 100000 in
set_option maxHeartbeats 2000000 in
theorem gover (R : GRep K A G w) (F : FitG G) :
    Calls Try.prog 50 #[.pointer (some ⟨A.g, 0, none⟩)] w fun e w' => (∃ v, e = .returned v) ∧ ∃ A', A'.g = A.g ∧ GRep K A' G.overG w' ∧ Ext K K w w' := by
  have HR := Lib.hid R
  have HF := Lib.hid F
  obtain ⟨n, hn⟩ : ∃ n, n = G.dues.length := ⟨_, rfl⟩
  have Hn := Lib.hid hn
  clear R F hn
  go_enter Try.func50, Try.ntmps50
  go_wp2
  go_loopg [] (n) (fun g wr => Hid (∃ (B : GAt) (ds : List (Int × Int)), g = ds.length ∧ B.g = A.g ∧ ds.dropWhile (fun d => G.tree.isOver d.2) = G.dues.dropWhile (fun d => G.tree.isOver d.2) ∧ GRep K B { G with dues := ds } wr ∧ FitG { G with dues := ds } ∧ Ext K K w wr))
  case atStart => exact ⟨A, G.dues, Hn.out, rfl, rfl, HR.out, HF.out, Ext.refl _ _⟩
  case round =>
    obtain ⟨B, ds, hgk, hBg, hdw, RB, FB, EB⟩ := hrel.out
    obtain ⟨arr, D, hp, ho⟩ := RB.drep
    have hal : arr.length = ds.length := hp.length_eq
    obtain ⟨b0, _, _, b3⟩ := RB.gcells
    have lg := RB.grove.lt
    rw [hBg] at b0 b3 lg
    have Hgk := Lib.hid hgk
    have HBg := Lib.hid hBg
    have Hdw := Lib.hid hdw
    have HRB := Lib.hid RB
    have HFB := Lib.hid FB
    have HEB := Lib.hid EB
    have HD := Lib.hid D
    have Hp := Lib.hid hp
    have Ho := Lib.hid ho
    have Hal := Lib.hid hal
    clear hrel hgk hBg hdw RB FB EB D hp ho hal
    cases ds with
    | nil =>
      obtain ⟨ad, cap, hv⟩ : ∃ ad cap, B.dv = .slice ad 0 cap := by
        have ha : arr = [] := List.eq_nil_of_length_eq_zero Hal.out
        obtain ⟨ad, cap, h⟩ := owns_shape HD.out.row
        rw [ha] at h
        exact ⟨ad, cap, h⟩
      rw [hv] at b3
      clear hv
      go_wp2
      go_end0
      refine ⟨⟨_, rfl⟩, B, HBg.out, ?_, HEB.out⟩
      unfold GroveA.overG
      rw [← Hdw.out]
      exact HRB.out
    | cons d l =>
      have h0 := heap_head Ho.out Hp.out HFB.out.sorted rfl
      obtain ⟨b, cap, hv, hcap, hcm, lb, hbg, hfb, hcells⟩ : ∃ b cap, B.dv = .slice (some ⟨b, 0, none⟩) (l.length + 1) cap ∧ l.length + 1 ≤ cap ∧ cap ≤ maxLen ∧ b < wr.heap.size ∧ b ≠ B.g ∧ (∀ j, wr.frozen? ⟨b, j, none⟩ = false) ∧ (wr.cell? ⟨b, 0, none⟩ = some (.int .i64 d.1) ∧ wr.cell? ⟨b, 1, none⟩ = some (.int .i64 d.2)) := by
        rcases HD.out.form with ⟨_, h⟩ | ⟨b, cap, h1, h2, h3, h4, h5, h6, h7⟩
        · rw [h] at h0; simp at h0
        · have := h7 0 d h0
          rw [Hal.out] at h1 h2
          exact ⟨b, cap, h1, h2, h3, h4, h5, h6, this⟩
      obtain ⟨k0, k1⟩ := hcells
      rw [hv] at b3
      have hl0 : (0 : Int) < (l.length : Int) + 1 := by omega
      have hlm : l.length ≤ 900 := by have := HFB.out.dues_len; simp at this; omega
      obtain ⟨v1, v2, v3, v4⟩ := HFB.out.valid d (by simp)
      obtain ⟨i, hi⟩ : ∃ i : Nat, d.2 = (i : Int) + 1 := ⟨d.2.toNat - 1, by omega⟩
      have hil : i < G.tree.scopes.length := by simp only at v4; omega
      obtain ⟨s, hs⟩ : ∃ s, G.tree.scopes[i]? = some s := ⟨_, List.getElem?_eq_getElem hil⟩
      obtain ⟨o, y, hso, hy, _⟩ := HFB.out.tree.down.own i s hs
      have hsc : G.tree.scope? ((i : Int) + 1) = some i := by
        unfold TreeA.scope?
        rw [if_pos (by omega)]
        congr 1
      have CS : Hid (∀ W, Below wr.heap.size wr W → Calls _ _ _ W _) := fun W hW => scopeT_ok (HRB.out.below hW).rep hsc hs hso hy (fun m hm => ⟨(HFB.out.tree.down.kid i s hs m hm).1, (HFB.out.tree.down.kid i s hs m hm).2.1⟩) (HFB.out.tree.kids i s hs)
      have hov : G.tree.isOver d.2 = s.over := by
        unfold TreeA.isOver
        have : d.2.toNat - 1 = i := by omega
        rw [this, hs]
      rw [hi] at k1
      have Hov := Lib.hid hov
      have Hi := Lib.hid hi
      have Hv := Lib.hid hv
      have H0 := Lib.hid h0
      clear h0 hv hi hov hs hso hy hsc hfb v1 v2 v3 v4
      generalize hlm2 : l.length = m at *
      have Hlm2 := Lib.hid hlm2
      clear hlm2
      cases hsv : s.over with
      | false =>
        rw [hsv] at CS Hov
        clear hsv
        go_wp2
        go_region_law (first | (go_simp; go_at_call 68; refine (CS.out _ ((Below.refl wr.heap.size wr).drew)).mono ?_; rintro e w1 ⟨q1, rfl, hq1, _, hb1⟩; obtain ⟨a1, p1, rfl⟩ := owns_shape hq1; have hbw : Below wr.heap.size wr w1 := ((Below.refl wr.heap.size wr).drew).trans hb1; have hz1 := hbw.size; have hb1 := Lib.hid hbw; clear hbw) | (go_simp; go_at_call 68; refine (CS.out _ (((Below.refl wr.heap.size wr).alloc (Nat.le_refl _) _).drew)).mono ?_; rintro e w1 ⟨q1, rfl, hq1, _, hb1⟩; obtain ⟨a1, p1, rfl⟩ := owns_shape hq1; have hbw : Below wr.heap.size wr w1 := (((Below.refl wr.heap.size wr).alloc (Nat.le_refl _) (.cells zeroSt 76)).drew).trans (hb1.mono (by show _ ≤ (wr.alloc _).heap.size; simp)); have hz1 := hbw.size; have B1 := Blk.below (w := (wr.alloc (.cells zeroSt 76)).drew) (Blk.new wr 76 zeroSt) hb1; have z0 := B1.cell 0 rfl; have z1 := B1.cell 1 rfl; have z2 := B1.cell 2 rfl; have z3 := B1.cell 3 rfl; have z4 := B1.cell 4 rfl; have z5 := B1.cell 5 rfl; have f0 := B1.frozen 0; have f1 := B1.frozen 1; have f2 := B1.frozen 2; have f3 := B1.frozen 3; have f4 := B1.frozen 4; have f5 := B1.frozen 5; clear B1; have hb1 := Lib.hid hbw; clear hbw))
        all_goals
          have hb1 := hb1.out
          go_wp2
          go_returns
          refine ⟨⟨_, rfl⟩, B, HBg.out, ?_, ?_⟩
          · unfold GroveA.overG
            rw [← Hdw.out, List.dropWhile_cons_of_neg (by rw [Hov.out]; simp)]
            refine HRB.out.below ?_
            go_grown
          · refine HEB.out.trans (Ext.of_below ?_)
            go_grown
      | true =>
        rw [hsv] at CS Hov
        clear hsv
        have CP : Hid (∀ W, Below wr.heap.size wr W → Calls Try.prog 51 #[.iface 94 (.pointer (some ⟨A.g, 3, none⟩))] W fun e w' => e = .returned (.iface 92 (.agg #[.int .i64 d.1, .int .i64 d.2])) ∧ ∃ B', B'.g = A.g ∧ GRep K B' { G with dues := l } w' ∧ Ext K K W w') := fun W hW => by
          have RW := HRB.out.below hW
          have DW : DRep B.g (.pointer (some ⟨B.L.t, 0, none⟩)) (.map (some B.mt)) (.map (some B.ms)) B.dv arr W := ⟨RW.grove, owns_of HD.out.row (fun b hb => hW.block b (HD.out.row.lt b hb).2)⟩
          rw [← HBg.out]
          refine (hpop_any (κ := K.on Tag.ofDues) DW (by rw [Hal.out]; have := Hlm2.out; simp; omega) (Kap.on_mk RW.kg rfl) (fun b hb => Kap.on_mk (RW.kd b hb) rfl) Ho.out H0.out).mono ?_
          rintro e w' ⟨he, dv', arr', D', hp', ho', E', hd'⟩
          have hpl : arr'.Perm l := by
            have h1 : (d :: arr').Perm (d :: l) := hp'.symm.trans Hp.out
            exact h1.cons_inv
          obtain ⟨R', E2⟩ := RW.duesSame E' D' hpl ho' hd'
          exact ⟨he, _, by rfl, R', E2⟩
        go_wp2
        go_region_law (first | (go_simp; go_at_call 68; refine (CS.out _ ((Below.refl wr.heap.size wr).drew)).mono ?_; rintro e w1 ⟨q1, rfl, hq1, _, hb1⟩; obtain ⟨a1, p1, rfl⟩ := owns_shape hq1; have hbw : Below wr.heap.size wr w1 := ((Below.refl wr.heap.size wr).drew).trans hb1; have hz1 := hbw.size; have hb1 := Lib.hid hbw; clear hbw) | (go_simp; go_at_call 68; refine (CS.out _ (((Below.refl wr.heap.size wr).alloc (Nat.le_refl _) _).drew)).mono ?_; rintro e w1 ⟨q1, rfl, hq1, _, hb1⟩; obtain ⟨a1, p1, rfl⟩ := owns_shape hq1; have hbw : Below wr.heap.size wr w1 := (((Below.refl wr.heap.size wr).alloc (Nat.le_refl _) (.cells zeroSt 76)).drew).trans (hb1.mono (by show _ ≤ (wr.alloc _).heap.size; simp)); have hz1 := hbw.size; have B1 := Blk.below (w := (wr.alloc (.cells zeroSt 76)).drew) (Blk.new wr 76 zeroSt) hb1; have z0 := B1.cell 0 rfl; have z1 := B1.cell 1 rfl; have z2 := B1.cell 2 rfl; have z3 := B1.cell 3 rfl; have z4 := B1.cell 4 rfl; have z5 := B1.cell 5 rfl; have f0 := B1.frozen 0; have f1 := B1.frozen 1; have f2 := B1.frozen 2; have f3 := B1.frozen 3; have f4 := B1.frozen 4; have f5 := B1.frozen 5; clear B1; have hb1 := Lib.hid hbw; clear hbw))
        all_goals
          have hb1 := hb1.out
          go_wp2_with (go_at_call 51; refine (CP.out _ (by go_grown)).mono ?_; rintro e w7 ⟨rfl, B7, hB7, R7, E7⟩; have hB7 := Lib.hid hB7; have R7 := Lib.hid R7; have E7 := Lib.hid E7)
          go_roundg l.length
          case rel => exact ⟨B7, l, rfl, hB7.out, (by rw [← Hdw.out, List.dropWhile_cons_of_pos (by rw [Hov.out])]), R7.out, { HFB.out with sorted := (List.pairwise_cons.1 HFB.out.sorted).2, once := (List.nodup_cons.1 HFB.out.once).2, valid := fun x hx => HFB.out.valid x (List.mem_cons_of_mem _ hx) }, (HEB.out.trans (Ext.of_below (by go_grown))).trans E7.out⟩
          case measure => rw [Hgk.out]; simp

end
end Go.Proofs.Ytoonkidlbnndcaa
