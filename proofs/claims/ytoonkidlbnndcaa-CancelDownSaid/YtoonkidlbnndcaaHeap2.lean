/-
  container/heap's up, over deadlines; Push.
-/
import Derived.Test.YtoonkidlbnndcaaHeap1
import Derived.Deep.RegionWith
namespace Go.Proofs.Ytoonkidlbnndcaa
set_option linter.unusedVariables false
set_option linter.unusedSimpArgs false
open Go.RowKit

theorem dueLe_refl (a : Int × Int) : dueLe a a := .inr ⟨rfl, Int.le_refl _⟩
theorem dueLe_trans {a b c : Int × Int} (h : dueLe a b) (k : dueLe b c) : dueLe a c := by unfold dueLe at *; omega
theorem dueLt_le {a b : Int × Int} (h : dueLtB a b = true) : dueLe a b := by
  unfold dueLtB at h
  unfold dueLe
  split at h <;> simp at h <;> omega
theorem dueLt_not {a b : Int × Int} (h : dueLtB a b = false) : dueLe b a := by
  unfold dueLtB at h
  unfold dueLe
  split at h <;> simp at h <;> omega

/-- A heap but for place j, which may be too small. -/
structure UpInv (arr : List (Int × Int)) (j : Nat) : Prop where
  off : ∀ (i : Nat) (a b : Int × Int), 0 < i → i ≠ j → arr[i]? = some b → arr[(i - 1) / 2]? = some a → dueLe a b
  kid : ∀ (i : Nat) (a b : Int × Int), 0 < i → (i - 1) / 2 = j → 0 < j → arr[i]? = some b → arr[(j - 1) / 2]? = some a → dueLe a b

theorem UpInv.done {arr : List (Int × Int)} {j : Nat} (U : UpInv arr j) (h : j = 0 ∨ ∀ a b, arr[j]? = some b → arr[(j - 1) / 2]? = some a → dueLe a b) : HeapOk arr := by
  intro i a b hi hb ha
  by_cases e : i = j
  · subst e
    rcases h with h | h
    · omega
    · exact h a b hb ha
  · exact U.off i a b hi e hb ha

theorem swapL_get {arr : List (Int × Int)} {i k : Nat} {x y : Int × Int} (hi : i < arr.length) (hk : k < arr.length) (hne : i ≠ k) (m : Nat) :
    (swapL arr i k x y)[m]? = if m = k then some x else if m = i then some y else arr[m]? := by
  unfold swapL
  rw [List.getElem?_set, List.getElem?_set]
  by_cases h1 : k = m
  · subst h1
    simp [hk]
  · by_cases h2 : i = m
    · subst h2
      simp [h1, hi, Ne.symm h1]
    · simp [h1, h2, Ne.symm h1, Ne.symm h2]

theorem swapL_perm {arr : List (Int × Int)} {i k : Nat} {x y : Int × Int} (hx : arr[i]? = some x) (hy : arr[k]? = some y) : (swapL arr i k x y).Perm arr := by
  obtain ⟨hi, rfl⟩ := List.getElem?_eq_some_iff.1 hx
  obtain ⟨hk, rfl⟩ := List.getElem?_eq_some_iff.1 hy
  unfold swapL
  exact List.set_set_perm hi hk

theorem UpInv.step {arr : List (Int × Int)} {j : Nat} {x y : Int × Int} (U : UpInv arr j) (hj : 0 < j) (hx : arr[(j - 1) / 2]? = some x) (hy : arr[j]? = some y) (hlt : dueLtB y x = true) : UpInv (swapL arr ((j - 1) / 2) j x y) ((j - 1) / 2) := by
  have hi := (List.getElem?_eq_some_iff.1 hx).1
  have hjl := (List.getElem?_eq_some_iff.1 hy).1
  have hne : (j - 1) / 2 ≠ j := by omega
  have hyx := dueLt_le hlt
  refine ⟨fun i a b h0 hij hb ha => ?_, fun i a b h0 hij h1 hb ha => ?_⟩
  · rw [swapL_get hi hjl hne] at hb ha
    by_cases e1 : i = j
    · subst e1
      rw [if_pos rfl] at hb
      rw [if_neg hne, if_pos rfl] at ha
      cases hb; cases ha
      exact hyx
    · rw [if_neg e1, if_neg hij] at hb
      by_cases e2 : (i - 1) / 2 = j
      · rw [if_pos e2] at ha
        cases ha
        exact U.kid i x b h0 e2 hj hb hx
      · rw [if_neg e2] at ha
        by_cases e3 : (i - 1) / 2 = (j - 1) / 2
        · rw [if_pos e3] at ha
          cases ha
          exact dueLe_trans hyx (U.off i x b h0 e1 hb (by rw [e3]; exact hx))
        · rw [if_neg e3] at ha
          exact U.off i a b h0 e1 hb ha
  · have hpp : ((j - 1) / 2 - 1) / 2 ≠ j := by omega
    have hpp2 : ((j - 1) / 2 - 1) / 2 ≠ (j - 1) / 2 := by omega
    rw [swapL_get hi hjl hne] at hb ha
    rw [if_neg hpp, if_neg hpp2] at ha
    have hax := U.off ((j - 1) / 2) a x h1 (by omega) hx ha
    by_cases e1 : i = j
    · subst e1
      rw [if_pos rfl] at hb
      cases hb
      exact hax
    · rw [if_neg e1, if_neg (by omega)] at hb
      exact dueLe_trans hax (U.off i x b h0 e1 hb (by rw [hij]; exact hx))

section
variable {g : Nat} {c0 c1 c2 dv : Value} {arr : List (Int × Int)} {w w' : World}

theorem DRep.drewN (D : DRep g c0 c1 c2 dv arr w) (n : Nat) : DRep g c0 c1 c2 dv arr (w.drewN n) := ⟨D.blk, D.row⟩

set_option maxRecDepth 100000 in
theorem up_any {κ : Kap} {b cap : Nat} (D : DRep g c0 c1 c2 (.slice (some ⟨b, 0, none⟩) arr.length cap) arr w) (hn : arr.length ≤ 1000) (j : Nat) (hj : j < arr.length) (U : UpInv arr j) (hb : κ b = some .due) :
    Calls Try.prog 83 #[.iface 94 (.pointer (some ⟨g, 3, none⟩)), .int .i64 (j : Int)] w fun e w' => (∃ v, e = .returned v) ∧ ∃ arr', DRep g c0 c1 c2 (.slice (some ⟨b, 0, none⟩) arr.length cap) arr' w' ∧ arr'.Perm arr ∧ HeapOk arr' ∧ Ext κ κ w w' := by
  have HD := Lib.hid D
  have HU := Lib.hid U
  have Hb := Lib.hid hb
  have lg := D.blk.lt
  generalize hm : arr.length = m at *
  have Hm := Lib.hid hm
  clear D U hb hm
  go_enter Try.func83, Try.ntmps83
  go_wp2
  go_loopw [1] (fun j wr => ∃ (k : Nat) (l : List (Int × Int)), j = .int .i64 (k : Int) ∧ k < m ∧ Hid (l.length = m) ∧ Hid (DRep g c0 c1 c2 (.slice (some ⟨b, 0, none⟩) m cap) l wr) ∧ Hid (l.Perm arr) ∧ Hid (UpInv l k) ∧ Hid (Ext κ κ w wr)) (fun j _ => (intOf j).toNat)
  case atStart => exact ⟨j, arr, rfl, hj, Hm.out, HD.out, List.Perm.refl _, HU.out, Ext.refl _ _⟩
  case round =>
    obtain ⟨k, l, rfl, hk, HL, HDl, HP, HUl, HE⟩ := hrel
    have dc := HDl.out.dcell
    by_cases h0 : k = 0
    · subst h0
      go_wp2
      go_end0
      exact ⟨⟨_, rfl⟩, l, HDl.out, HP.out, HUl.out.done (.inl rfl), HE.out⟩
    · obtain ⟨p, rfl⟩ : ∃ p, k = p + 1 := ⟨k - 1, by omega⟩
      clear h0
      obtain ⟨x, hx⟩ : ∃ x, l[p / 2]? = some x := ⟨_, List.getElem?_eq_getElem (by rw [HL.out]; omega)⟩
      obtain ⟨y, hy⟩ : ∃ y, l[p + 1]? = some y := ⟨_, List.getElem?_eq_getElem (by rw [HL.out]; omega)⟩
      have hgd : ((p : Int) / 2 == (p : Int) + 1) = false := by simp; omega
      obtain ⟨q, hq⟩ : ∃ q, q = p / 2 := ⟨_, rfl⟩
      have hq2 : (p : Int) / 2 = (q : Int) := by omega
      rw [← hq] at hx
      have hbr : ∃ hb2 : b ≠ g, (∀ j, wr.frozen? ⟨b, j, none⟩ = false) ∧ (wr.cell? ⟨b, q * 2, none⟩ = some (.int .i64 x.1) ∧ wr.cell? ⟨b, q * 2 + 1, none⟩ = some (.int .i64 x.2)) ∧ (wr.cell? ⟨b, (p + 1) * 2, none⟩ = some (.int .i64 y.1) ∧ wr.cell? ⟨b, (p + 1) * 2 + 1, none⟩ = some (.int .i64 y.2)) := by
        have hf := HDl.out.form
        rw [HL.out] at hf
        rcases hf with ⟨h, _⟩ | ⟨b', cap', h, h1, h2, h3, h4, h5, h6⟩
        · cases h
        · injection h with e1 e2 e3
          injection e1 with e1
          injection e1 with e1
          subst e1 e3
          exact ⟨h4, h5, h6 _ _ hx, h6 _ _ hy⟩
      have ml := meth_less dc
      have Hx := Lib.hid hx
      have Hy := Lib.hid hy
      have Hbr := Lib.hid hbr
      have Hq := Lib.hid hq
      have CL : Hid (Calls Try.prog 109 #[.slice (some ⟨b, 0, none⟩) m cap, .int .i64 ((p : Int) + 1), .int .i64 (q : Int)] wr fun e w' => e = .returned (.bool (dueLtB y x)) ∧ ∃ q, w' = wr.drewN q) := by
        obtain ⟨_, _, ⟨x0, x1⟩, ⟨y0, y1⟩⟩ := Hbr.out
        exact less_any b m cap (p + 1) q y x wr hk (by omega) (by omega) y0 y1 x0 x1
      clear hx hy hbr hq
      by_cases hlt : dueLtB y x = true
      · have CS : Hid (∀ n, Calls Try.prog 110 #[.slice (some ⟨b, 0, none⟩) m cap, .int .i64 (q : Int), .int .i64 ((p : Int) + 1)] (wr.drewN n) fun e w' => (∃ v, e = .returned v) ∧ ∃ q', w' = (swapW wr b q (p + 1) x y).drewN q') := fun n => by
          obtain ⟨_, hf, ⟨x0, x1⟩, ⟨y0, y1⟩⟩ := Hbr.out
          refine (swap_any b m cap q (p + 1) x y (wr.drewN n) (by have := Hq.out; omega) hk (by omega) x0 x1 y0 y1 hf).mono ?_
          rintro e w' ⟨h, q', rfl⟩
          exact ⟨h, n + q', swapW_drewN _ _ _ _ _ _ _ _⟩
        have Hlt := Lib.hid hlt
        rw [hlt] at CL
        clear hlt
        go_wp2_with (first | (go_at_call 109; refine CL.out.mono ?_; rintro e w2 ⟨rfl, n1, rfl⟩; have ms := meth_swap (W := wr.drewN n1) dc) | (go_at_call 110; refine (CS.out _).mono ?_; rintro e w3 ⟨⟨v, rfl⟩, n2, rfl⟩))
        obtain ⟨hbg, _⟩ := Hbr.out
        have DS : DRep g c0 c1 c2 (.slice (some ⟨b, 0, none⟩) m cap) (swapL l q (p + 1) x y) ((swapW wr b q (p + 1) x y).drewN n2) := by
          have := HDl.out
          rw [← HL.out] at this ⊢
          exact this.swapped (by rw [HL.out]; have := Hq.out; omega) (by rw [HL.out]; omega) hbg n2
        have hqe := Hq.out
        go_roundw
        case rel => exact ⟨q, swapL l q (p + 1) x y, rfl, by omega, (by show _ = _; rw [← HL.out]; simp [swapL]), DS, (swapL_perm Hx.out Hy.out).trans HP.out, (by subst hqe; exact HUl.out.step (by omega) Hx.out Hy.out Hlt.out), HE.out.trans (Ext.swapped (by rw [Hb.out]; simp) n2)⟩
        case measure => simp [intOf]; omega
      · have hlt : dueLtB y x = false := by simpa using hlt
        have Hlt := Lib.hid hlt
        rw [hlt] at CL
        clear hlt
        go_wp2_with (go_at_call 109; refine CL.out.mono ?_; rintro e w2 ⟨rfl, n1, rfl⟩)
        go_end0
        refine ⟨⟨_, rfl⟩, l, HDl.out.drewN n1, HP.out, HUl.out.done (.inr fun a c ha hc => ?_), HE.out.drewN n1⟩
        rw [Hy.out] at ha
        have hqe := Hq.out
        rw [Nat.add_sub_cancel, ← hqe, Hx.out] at hc
        cases ha; cases hc
        exact dueLt_not Hlt.out

/-- heap.Push. -/
theorem hpush_any {κ : Kap} (D : DRep g c0 c1 c2 dv arr w) (d : Int × Int) (hn : arr.length < 1000) (hl : ∀ b t, κ b = some t → b < w.heap.size) (hg : κ g = some .grove) (hd : ∀ b, dv.ownBlock = some b → κ b = some .due) (H : HeapOk arr) :
    Calls Try.prog 61 #[.iface 94 (.pointer (some ⟨g, 3, none⟩)), .iface 92 (.agg #[.int .i64 d.1, .int .i64 d.2])] w fun e w' => (∃ v, e = .returned v) ∧ ∃ κ' dv' arr', DRep g c0 c1 c2 dv' arr' w' ∧ arr'.Perm (d :: arr) ∧ HeapOk arr' ∧ Ext κ κ' w w' ∧
      (∀ b t, κ' b = some t → b < w'.heap.size) ∧ (∀ b, dv'.ownBlock = some b → κ' b = some .due) := by
  have P := Lib.hid (dpush_any D d (by omega) hl hg hd)
  have HH := Lib.hid H
  have lg := D.blk.lt
  clear D hl hg hd H
  go_enter Try.func61, Try.ntmps61
  go_wp2_with (go_at_call 112; refine P.out.mono ?_; rintro e w1 ⟨⟨v, rfl⟩, κ1, b, cap, D1, E1, hl1, hg1, hd1⟩; have dc := D1.dcell; have ml := meth_len (W := w1) dc; have HD1 := Lib.hid D1; have HE1 := Lib.hid E1; have hl1 := Lib.hid hl1; have hd1 := Lib.hid hd1; have hg1 := Lib.hid hg1; clear D1 E1)
  have HU : Hid (UpInv (arr ++ [d]) arr.length) := ⟨fun i a b h0 hne hb ha => HH.out i a b h0 (by
      have := (List.getElem?_eq_some_iff.1 hb).1
      rw [List.getElem?_append_left (by simp at this; omega)] at hb
      exact hb) (by
      have := (List.getElem?_eq_some_iff.1 hb).1
      rw [List.getElem?_append_left (by simp at this; omega)] at ha
      exact ha), fun i a b h0 he h1 hb _ => by
    have := (List.getElem?_eq_some_iff.1 hb).1
    simp at this
    omega⟩
  have e : (arr ++ [d]).length = arr.length + 1 := by simp
  have HC := Lib.hid (up_any (arr := arr ++ [d]) (κ := κ1) (b := b) (cap := cap) (by rw [e]; exact HD1.out) (by omega) arr.length (by omega) HU.out hd1.out)
  clear e
  go_wp2_with (first | (go_at_call 108; refine (dlen_any _ _ _ _).mono ?_; rintro e w' ⟨rfl, rfl⟩) | (go_at_call 83; refine HC.out.mono ?_; rintro e w2 ⟨⟨v2, rfl⟩, arr', h⟩; have h := Lib.hid h))
  go_end0
  obtain ⟨D2, hp, ho, E2⟩ := h.out
  refine ⟨⟨_, rfl⟩, κ1, _, arr', D2, ?_, ho, HE1.out.trans E2, fun b t hb => Nat.lt_of_lt_of_le (hl1.out b t hb) E2.size, fun b' hb' => ?_⟩
  · exact hp.trans (List.perm_append_singleton d arr)
  · have : b = b' := by simpa [Value.ownBlock] using hb'
    subst this
    exact hd1.out

end
end Go.Proofs.Ytoonkidlbnndcaa
