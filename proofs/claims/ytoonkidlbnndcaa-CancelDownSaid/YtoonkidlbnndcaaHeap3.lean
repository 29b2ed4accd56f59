/-
  container/heap's down, over deadlines; Pop.
-/
import Derived.Test.YtoonkidlbnndcaaHeap2
namespace Go.Proofs.Ytoonkidlbnndcaa
set_option linter.unusedVariables false
set_option linter.unusedSimpArgs false
open Go.RowKit

/-- The first n are a heap but for place i, which may be too great. -/
structure DownInv (arr : List (Int × Int)) (i n : Nat) : Prop where
  off : ∀ (k : Nat) (a b : Int × Int), 0 < k → k < n → (k - 1) / 2 ≠ i → arr[k]? = some b → arr[(k - 1) / 2]? = some a → dueLe a b
  par : ∀ (k : Nat) (a b : Int × Int), 0 < k → k < n → (k - 1) / 2 = i → 0 < i → arr[k]? = some b → arr[(i - 1) / 2]? = some a → dueLe a b

/-- The first n are a heap. -/
def HeapTo (arr : List (Int × Int)) (n : Nat) : Prop := ∀ (k : Nat) (a b : Int × Int), 0 < k → k < n → arr[k]? = some b → arr[(k - 1) / 2]? = some a → dueLe a b

theorem DownInv.done {arr : List (Int × Int)} {i n : Nat} (U : DownInv arr i n) (h : ∀ (k : Nat) (a b : Int × Int), 0 < k → k < n → (k - 1) / 2 = i → arr[k]? = some b → arr[i]? = some a → dueLe a b) : HeapTo arr n := by
  intro k a b hk hn hb ha
  by_cases e : (k - 1) / 2 = i
  · exact h k a b hk hn e hb (by rw [← e]; exact ha)
  · exact U.off k a b hk hn e hb ha

/-- The greater goes down to the less of its children. -/
theorem DownInv.step {arr : List (Int × Int)} {i j n : Nat} {x y : Int × Int} (U : DownInv arr i n) (hn : n ≤ arr.length) (hij : (j - 1) / 2 = i) (h0 : 0 < j) (hj : j < n) (hx : arr[i]? = some x) (hy : arr[j]? = some y) (hlt : dueLtB y x = true)
    (hmin : ∀ (k : Nat) (b : Int × Int), 0 < k → k < n → (k - 1) / 2 = i → arr[k]? = some b → dueLe y b) : DownInv (swapL arr i j x y) j n := by
  have hil := (List.getElem?_eq_some_iff.1 hx).1
  have hjl := (List.getElem?_eq_some_iff.1 hy).1
  have hne : i ≠ j := by omega
  have hyx := dueLt_le hlt
  refine ⟨fun k a b hk hkn hkj hb ha => ?_, fun k a b hk hkn hkj _ hb ha => ?_⟩
  · rw [swapL_get hil hjl hne] at hb ha
    rw [if_neg hkj] at ha
    by_cases e1 : (k - 1) / 2 = i
    · rw [if_pos e1] at ha
      cases ha
      by_cases e2 : k = j
      · rw [if_pos e2] at hb
        cases hb
        exact hyx
      · rw [if_neg e2, if_neg (by omega)] at hb
        exact hmin k b hk hkn e1 hb
    · rw [if_neg e1] at ha
      by_cases e2 : k = j
      · omega
      · rw [if_neg e2] at hb
        by_cases e3 : k = i
        · rw [if_pos e3] at hb
          cases hb
          subst e3
          exact U.par j a y h0 hj hij hk hy ha
        · rw [if_neg e3] at hb
          exact U.off k a b hk hkn e1 hb ha
  · rw [swapL_get hil hjl hne] at hb ha
    rw [hij, if_neg hne, if_pos rfl] at ha
    cases ha
    rw [if_neg (by omega), if_neg (by omega)] at hb
    exact U.off k y b hk hkn (by omega) hb (by rw [hkj]; exact hy)

section
variable {g : Nat} {c0 c1 c2 dv : Value} {arr : List (Int × Int)} {w w' : World}

theorem DRep.at {b cap : Nat} (D : DRep g c0 c1 c2 (.slice (some ⟨b, 0, none⟩) arr.length cap) arr w) : b ≠ g ∧ (∀ j, w.frozen? ⟨b, j, none⟩ = false) ∧
    ∀ i d, arr[i]? = some d → w.cell? ⟨b, i * 2, none⟩ = some (.int .i64 d.1) ∧ w.cell? ⟨b, i * 2 + 1, none⟩ = some (.int .i64 d.2) := by
  rcases D.form with ⟨h, _⟩ | ⟨b', cap', h, h1, h2, h3, h4, h5, h6⟩
  · cases h
  · injection h with e1 e2 e3
    injection e1 with e1
    injection e1 with e1
    subst e1 e3
    exact ⟨h4, h5, h6⟩

theorem DRep.less {b cap : Nat} (D : DRep g c0 c1 c2 (.slice (some ⟨b, 0, none⟩) arr.length cap) arr w) (hn : arr.length ≤ 1001) {i k : Nat} {x y : Int × Int} (hx : arr[i]? = some x) (hy : arr[k]? = some y) (n : Nat) {p q : Int} (hp : p = i) (hq : q = k) :
    Calls Try.prog 109 #[.slice (some ⟨b, 0, none⟩) arr.length cap, .int .i64 p, .int .i64 q] (w.drewN n) fun e w' => e = .returned (.bool (dueLtB x y)) ∧ ∃ q, w' = w.drewN q := by
  subst hp hq
  obtain ⟨_, _, h⟩ := D.at
  obtain ⟨x0, x1⟩ := h _ _ hx
  obtain ⟨y0, y1⟩ := h _ _ hy
  refine (less_any b arr.length cap i k x y (w.drewN n) (List.getElem?_eq_some_iff.1 hx).1 (List.getElem?_eq_some_iff.1 hy).1 (by omega) x0 x1 y0 y1).mono ?_
  rintro e w' ⟨rfl, q, rfl⟩
  exact ⟨rfl, _, World.drewN_drewN _ _ _⟩

theorem DRep.swap {κ : Kap} {b cap : Nat} (D : DRep g c0 c1 c2 (.slice (some ⟨b, 0, none⟩) arr.length cap) arr w) (hn : arr.length ≤ 1001) (hb : κ b = some .due) {i k : Nat} {x y : Int × Int} (hx : arr[i]? = some x) (hy : arr[k]? = some y) (n : Nat) {p q : Int} (hp : p = i) (hq : q = k) :
    Calls Try.prog 110 #[.slice (some ⟨b, 0, none⟩) arr.length cap, .int .i64 p, .int .i64 q] (w.drewN n) fun e w' => (∃ v, e = .returned v) ∧ DRep g c0 c1 c2 (.slice (some ⟨b, 0, none⟩) arr.length cap) (swapL arr i k x y) w' ∧ Ext κ κ w w' := by
  subst hp hq
  obtain ⟨hbg, hf, h⟩ := D.at
  obtain ⟨x0, x1⟩ := h _ _ hx
  obtain ⟨y0, y1⟩ := h _ _ hy
  have hi := (List.getElem?_eq_some_iff.1 hx).1
  have hk := (List.getElem?_eq_some_iff.1 hy).1
  refine (swap_any b arr.length cap i k x y (w.drewN n) hi hk (by omega) x0 x1 y0 y1 hf).mono ?_
  rintro e w' ⟨h, q, rfl⟩
  rw [swapW_drewN]
  exact ⟨h, D.swapped hi hk hbg _, Ext.swapped (by rw [hb]; simp) _⟩

set_option maxRecDepth 100000 in
set_option maxHeartbeats 2000000 in
theorem down_any {κ : Kap} {b cap : Nat} (D : DRep g c0 c1 c2 (.slice (some ⟨b, 0, none⟩) arr.length cap) arr w) (hl : arr.length ≤ 1000) (n : Nat) (hn : n < arr.length) (U : DownInv arr 0 n) (hb : κ b = some .due) :
    Calls Try.prog 79 #[.iface 94 (.pointer (some ⟨g, 3, none⟩)), .int .i64 0, .int .i64 (n : Int)] w fun e w' => (∃ v, e = .returned v) ∧ ∃ arr', DRep g c0 c1 c2 (.slice (some ⟨b, 0, none⟩) arr.length cap) arr' w' ∧ arr'.Perm arr ∧ HeapTo arr' n ∧ arr'[n]? = arr[n]? ∧ Ext κ κ w w' := by
  have HD := Lib.hid D
  have HU := Lib.hid U
  have Hb := Lib.hid hb
  have lg := D.blk.lt
  generalize hm : arr.length = m at *
  have Hm := Lib.hid hm
  clear D U hb hm
  go_enter Try.func79, Try.ntmps79
  go_wp2
  go_loopw [7] (fun j wr => ∃ (k : Nat) (l : List (Int × Int)), j = .int .i64 (k : Int) ∧ k ≤ n ∧ Hid (l.length = m) ∧ Hid (DRep g c0 c1 c2 (.slice (some ⟨b, 0, none⟩) m cap) l wr) ∧ Hid (l.Perm arr) ∧ Hid (DownInv l k n) ∧ Hid (l[n]? = arr[n]?) ∧ Hid (Ext κ κ w wr)) (fun j _ => n - (intOf j).toNat)
  case atStart => exact ⟨0, arr, rfl, Nat.zero_le _, Hm.out, HD.out, List.Perm.refl _, HU.out, rfl, Ext.refl _ _⟩
  case round =>
    obtain ⟨k, l, rfl, hk, HL, HDl, HP, HUl, HN, HE⟩ := hrel
    have dc := HDl.out.dcell
    have dcn : Hid (∀ n', (wr.drewN n').cell? ⟨g, 3, none⟩ = some (.slice (some ⟨b, 0, none⟩) m cap)) := fun _ => dc
    have ML : Hid (∀ n', (method 263 94 (.pointer (some ⟨g, 3, none⟩)) "Less").run Try.prog (wr.drewN n') = .ok (109, .slice (some ⟨b, 0, none⟩) m cap) (wr.drewN n')) := fun n' => meth_less (dcn.out n')
    have MS : Hid (∀ n', (method 263 94 (.pointer (some ⟨g, 3, none⟩)) "Swap").run Try.prog (wr.drewN n') = .ok (110, .slice (some ⟨b, 0, none⟩) m cap) (wr.drewN n')) := fun n' => meth_swap (dcn.out n')
    have ml := meth_less dc
    have CL : Hid (∀ (i k : Nat) (x y : Int × Int), l[i]? = some x → l[k]? = some y → ∀ (n' : Nat) (p q : Int), p = i → q = k → Calls Try.prog 109 #[.slice (some ⟨b, 0, none⟩) m cap, .int .i64 p, .int .i64 q] (wr.drewN n') fun e w' => e = .returned (.bool (dueLtB x y)) ∧ ∃ q, w' = wr.drewN q) := by
      intro i k x y hx hy n' p q hp hq
      have D' := HDl.out
      have hl' := HL.out
      subst hl'
      exact D'.less (by omega) hx hy n' hp hq
    have CS : Hid (∀ (i k : Nat) (x y : Int × Int), l[i]? = some x → l[k]? = some y → ∀ (n' : Nat) (p q : Int), p = i → q = k → Calls Try.prog 110 #[.slice (some ⟨b, 0, none⟩) m cap, .int .i64 p, .int .i64 q] (wr.drewN n') fun e w' => (∃ v, e = .returned v) ∧ DRep g c0 c1 c2 (.slice (some ⟨b, 0, none⟩) m cap) (swapL l i k x y) w' ∧ Ext κ κ wr w') := by
      intro i k x y hx hy n' p q hp hq
      have D' := HDl.out
      have hl' := HL.out
      subst hl'
      exact D'.swap (by omega) Hb.out hx hy n' hp hq
    by_cases h1 : 2 * k + 1 < n
    · obtain ⟨x, hx⟩ : ∃ x, l[k]? = some x := ⟨_, List.getElem?_eq_getElem (by rw [HL.out]; omega)⟩
      obtain ⟨z, hz⟩ : ∃ z, l[2 * k + 1]? = some z := ⟨_, List.getElem?_eq_getElem (by rw [HL.out]; omega)⟩
      have hx := Lib.hid hx
      have hz := Lib.hid hz
      by_cases h2 : 2 * k + 2 < n
      · obtain ⟨z2, hz2⟩ : ∃ z2, l[2 * k + 2]? = some z2 := ⟨_, List.getElem?_eq_getElem (by rw [HL.out]; omega)⟩
        have hz2 := Lib.hid hz2
        have C1 : Hid (Calls Try.prog 109 #[.slice (some ⟨b, 0, none⟩) m cap, .int .i64 (2 * (k : Int) + 2), .int .i64 (2 * (k : Int) + 1)] wr fun e w' => e = .returned (.bool (dueLtB z2 z)) ∧ ∃ q, w' = wr.drewN q) := CL.out (2 * k + 2) (2 * k + 1) z2 z hz2.out hz.out 0 (2 * (k : Int) + 2) (2 * (k : Int) + 1) (by omega) (by omega)
        rcases hc : dueLtB z2 z with _ | _
        · rw [hc] at C1
          have hmin : ∀ (k' : Nat) (b' : Int × Int), 0 < k' → k' < n → (k' - 1) / 2 = k → l[k']? = some b' → dueLe z b' := fun k' b' h0 hn' hk' hb' => by
            rcases (by omega : k' = 2 * k + 1 ∨ k' = 2 * k + 2) with rfl | rfl
            · rw [hz.out] at hb'; cases hb'; exact dueLe_refl z
            · rw [hz2.out] at hb'; cases hb'; exact dueLt_not hc
          clear hc
          obtain ⟨y, hyz⟩ : ∃ y, y = z := ⟨_, rfl⟩
          subst hyz
          have hy := hz
          have hy2 := Lib.hid hmin
          clear hmin
          rcases ht : dueLtB y x with _ | _
          · have CT := Lib.hid (fun n' => CL.out (2 * k + 1) k y x hy.out hx.out n' (2 * (k : Int) + 1) (k : Int) (by omega) rfl)
            rw [ht] at CT
            have Ht := Lib.hid ht
            clear ht
            go_wp2_with (first | (go_at_call 109; refine C1.out.mono ?_; rintro e w2 ⟨rfl, n1, rfl⟩; have ml2 := ML.out n1; clear C1) | (go_at_call 109; refine (CT.out _).mono ?_; rintro e w3 ⟨rfl, n2, rfl⟩))
            go_returns
            exact ⟨⟨_, rfl⟩, l, HDl.out.drewN _, HP.out, HUl.out.done (fun k' a b' hk0 hkn hkk hb' ha' => by rw [hx.out] at ha'; cases ha'; exact dueLe_trans (dueLt_not Ht.out) (hy2.out k' b' hk0 hkn hkk hb')), HN.out, HE.out.drewN _⟩
          · have CT := Lib.hid (fun n' => CL.out (2 * k + 1) k y x hy.out hx.out n' (2 * (k : Int) + 1) (k : Int) (by omega) rfl)
            rw [ht] at CT
            have CW := Lib.hid (fun n' => CS.out k (2 * k + 1) x y hx.out hy.out n' (k : Int) (2 * (k : Int) + 1) rfl (by omega))
            have Ht := Lib.hid ht
            clear ht
            go_wp2_with (first | (go_at_call 109; refine C1.out.mono ?_; rintro e w2 ⟨rfl, n1, rfl⟩; have ml2 := ML.out n1; clear C1) | (go_at_call 109; refine (CT.out _).mono ?_; rintro e w3 ⟨rfl, n2, rfl⟩; have ms := MS.out n2) | (go_at_call 110; refine (CW.out _).mono ?_; rintro e w4 ⟨⟨v, rfl⟩, D4, E4⟩; have D4 := Lib.hid D4; have E4 := Lib.hid E4))
            go_roundw
            case rel => exact ⟨(2 * k + 1), _, congrArg (Value.int .i64) (by omega), by omega, (by show _ = _; rw [← HL.out]; simp [swapL]), D4.out, (swapL_perm hx.out hy.out).trans HP.out, HUl.out.step (by rw [HL.out]; omega) (by omega) (by omega) (by omega) hx.out hy.out Ht.out hy2.out, (by show _ = _; rw [swapL_get (by rw [HL.out]; omega) (by rw [HL.out]; omega) (by omega), if_neg (by omega), if_neg (by omega)]; exact HN.out), HE.out.trans E4.out⟩
            case measure => simp [intOf]; omega
        · rw [hc] at C1
          have hmin : ∀ (k' : Nat) (b' : Int × Int), 0 < k' → k' < n → (k' - 1) / 2 = k → l[k']? = some b' → dueLe z2 b' := fun k' b' h0 hn' hk' hb' => by
            rcases (by omega : k' = 2 * k + 1 ∨ k' = 2 * k + 2) with rfl | rfl
            · rw [hz.out] at hb'; cases hb'; exact dueLt_le hc
            · rw [hz2.out] at hb'; cases hb'; exact dueLe_refl z2
          clear hc
          obtain ⟨y, hyz⟩ : ∃ y, y = z2 := ⟨_, rfl⟩
          subst hyz
          have hy := hz2
          have hy2 := Lib.hid hmin
          clear hmin
          rcases ht : dueLtB y x with _ | _
          · have CT := Lib.hid (fun n' => CL.out (2 * k + 2) k y x hy.out hx.out n' (2 * (k : Int) + 2) (k : Int) (by omega) rfl)
            rw [ht] at CT
            have Ht := Lib.hid ht
            clear ht
            go_wp2_with (first | (go_at_call 109; refine C1.out.mono ?_; rintro e w2 ⟨rfl, n1, rfl⟩; have ml2 := ML.out n1; clear C1) | (go_at_call 109; refine (CT.out _).mono ?_; rintro e w3 ⟨rfl, n2, rfl⟩))
            go_returns
            exact ⟨⟨_, rfl⟩, l, HDl.out.drewN _, HP.out, HUl.out.done (fun k' a b' hk0 hkn hkk hb' ha' => by rw [hx.out] at ha'; cases ha'; exact dueLe_trans (dueLt_not Ht.out) (hy2.out k' b' hk0 hkn hkk hb')), HN.out, HE.out.drewN _⟩
          · have CT := Lib.hid (fun n' => CL.out (2 * k + 2) k y x hy.out hx.out n' (2 * (k : Int) + 2) (k : Int) (by omega) rfl)
            rw [ht] at CT
            have CW := Lib.hid (fun n' => CS.out k (2 * k + 2) x y hx.out hy.out n' (k : Int) (2 * (k : Int) + 2) rfl (by omega))
            have Ht := Lib.hid ht
            clear ht
            go_wp2_with (first | (go_at_call 109; refine C1.out.mono ?_; rintro e w2 ⟨rfl, n1, rfl⟩; have ml2 := ML.out n1; clear C1) | (go_at_call 109; refine (CT.out _).mono ?_; rintro e w3 ⟨rfl, n2, rfl⟩; have ms := MS.out n2) | (go_at_call 110; refine (CW.out _).mono ?_; rintro e w4 ⟨⟨v, rfl⟩, D4, E4⟩; have D4 := Lib.hid D4; have E4 := Lib.hid E4))
            go_roundw
            case rel => exact ⟨(2 * k + 2), _, congrArg (Value.int .i64) (by omega), by omega, (by show _ = _; rw [← HL.out]; simp [swapL]), D4.out, (swapL_perm hx.out hy.out).trans HP.out, HUl.out.step (by rw [HL.out]; omega) (by omega) (by omega) (by omega) hx.out hy.out Ht.out hy2.out, (by show _ = _; rw [swapL_get (by rw [HL.out]; omega) (by rw [HL.out]; omega) (by omega), if_neg (by omega), if_neg (by omega)]; exact HN.out), HE.out.trans E4.out⟩
            case measure => simp [intOf]; omega
      · have hmin : ∀ (k' : Nat) (b' : Int × Int), 0 < k' → k' < n → (k' - 1) / 2 = k → l[k']? = some b' → dueLe z b' := fun k' b' h0 hn' hk' hb' => by
          rcases (by omega : k' = 2 * k + 1 ∨ k' = 2 * k + 2) with rfl | rfl
          · rw [hz.out] at hb'; cases hb'; exact dueLe_refl z
          · omega
        obtain ⟨y, hyz⟩ : ∃ y, y = z := ⟨_, rfl⟩
        subst hyz
        have hy := hz
        have hy2 := Lib.hid hmin
        clear hmin
        rcases ht : dueLtB y x with _ | _
        · have CT : Hid (Calls Try.prog 109 #[.slice (some ⟨b, 0, none⟩) m cap, .int .i64 (2 * (k : Int) + 1), .int .i64 (k : Int)] wr fun e w' => e = .returned (.bool (dueLtB y x)) ∧ ∃ q, w' = wr.drewN q) := CL.out (2 * k + 1) k y x hy.out hx.out 0 (2 * (k : Int) + 1) (k : Int) (by omega) rfl
          rw [ht] at CT
          have Ht := Lib.hid ht
          clear ht
          go_wp2_with (first | (go_at_call 109; refine CT.out.mono ?_; rintro e w3 ⟨rfl, n2, rfl⟩))
          go_returns
          exact ⟨⟨_, rfl⟩, l, HDl.out.drewN _, HP.out, HUl.out.done (fun k' a b' hk0 hkn hkk hb' ha' => by rw [hx.out] at ha'; cases ha'; exact dueLe_trans (dueLt_not Ht.out) (hy2.out k' b' hk0 hkn hkk hb')), HN.out, HE.out.drewN _⟩
        · have CT : Hid (Calls Try.prog 109 #[.slice (some ⟨b, 0, none⟩) m cap, .int .i64 (2 * (k : Int) + 1), .int .i64 (k : Int)] wr fun e w' => e = .returned (.bool (dueLtB y x)) ∧ ∃ q, w' = wr.drewN q) := CL.out (2 * k + 1) k y x hy.out hx.out 0 (2 * (k : Int) + 1) (k : Int) (by omega) rfl
          rw [ht] at CT
          have CW := Lib.hid (fun n' => CS.out k (2 * k + 1) x y hx.out hy.out n' (k : Int) (2 * (k : Int) + 1) rfl (by omega))
          have Ht := Lib.hid ht
          clear ht
          go_wp2_with (first | (go_at_call 109; refine CT.out.mono ?_; rintro e w3 ⟨rfl, n2, rfl⟩; have ms := MS.out n2) | (go_at_call 110; refine (CW.out _).mono ?_; rintro e w4 ⟨⟨v, rfl⟩, D4, E4⟩; have D4 := Lib.hid D4; have E4 := Lib.hid E4))
          go_roundw
          case rel => exact ⟨(2 * k + 1), _, congrArg (Value.int .i64) (by omega), by omega, (by show _ = _; rw [← HL.out]; simp [swapL]), D4.out, (swapL_perm hx.out hy.out).trans HP.out, HUl.out.step (by rw [HL.out]; omega) (by omega) (by omega) (by omega) hx.out hy.out Ht.out hy2.out, (by show _ = _; rw [swapL_get (by rw [HL.out]; omega) (by rw [HL.out]; omega) (by omega), if_neg (by omega), if_neg (by omega)]; exact HN.out), HE.out.trans E4.out⟩
          case measure => simp [intOf]; omega
    · go_wp2
      go_returns
      exact ⟨⟨_, rfl⟩, l, HDl.out, HP.out, HUl.out.done (fun k' a b' hk0 hkn hkk hb' ha' => by omega), HN.out, HE.out⟩

end
end Go.Proofs.Ytoonkidlbnndcaa
