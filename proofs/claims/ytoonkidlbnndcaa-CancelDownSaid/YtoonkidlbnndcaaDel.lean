/-
  slices.IndexFunc and slices.DeleteFunc over task numbers, asked by (*Grove).Pending.
-/
import Derived.Test.YtoonkidlbnndcaaPend2
import Derived.Lib.SliceRun
import Derived.BigFrame
namespace Go.Proofs.Ytoonkidlbnndcaa
set_option linter.unusedVariables false
set_option linter.unusedSimpArgs false
open Go.RowKit

/-- One block. -/
def Xk (gb : Nat) : Kap := fun b => if b = gb then some .due else none
theorem Xk_same (gb : Nat) : Xk gb gb ≠ none := by simp [Xk]
theorem Xk_other {gb b : Nat} (h : b ≠ gb) : Xk gb b = none := by simp [Xk, h]

/-- What a method value of Pending answers, as long as all but one block lie as in w. -/
def PredX (gb g : Nat) (p : Int → Bool) (w : World) : Prop := ∀ W, Ext (Xk gb) (Xk gb) w W → ∀ n : Nat, Calls Try.prog 18 #[.pointer (some ⟨g, 0, none⟩), .int .i64 (n : Int)] W fun e W' => e = .returned (.bool (p n)) ∧ Below W.heap.size W W'

theorem PredX.step {gb g : Nat} {p : Int → Bool} {w W : World} (P : PredX gb g p w) (E : Ext (Xk gb) (Xk gb) w W) : PredX gb g p W := fun W' E' n => P W' (E.trans E') n

theorem Ext.of_below' {κ : Kap} {w W W' : World} (E : Ext κ κ w W) (h : Below W.heap.size W W') : Ext κ κ w W' := E.trans (Ext.of_below h)

section
variable {gb g cap : Nat} {p : Int → Bool} {ns : List Nat} {w w' : World}

set_option maxRecDepth 100000 in
theorem ixf_any (hP : PredX gb g p w) (hR : w.ownsRow 0 3 1 (.slice (some ⟨gb, 0, none⟩) ns.length cap) ns.length (ns.map intCell)) (hl : ns.length ≤ 1000000) :
    Calls Try.prog 90 #[.slice (some ⟨gb, 0, none⟩) ns.length cap, .func (.func 18) #[.pointer (some ⟨g, 0, none⟩)] #[]] w fun e w' => e = .returned (.int .i64 (idxInt (ns.findIdx? (fun n : Nat => p n)))) ∧ Below w.heap.size w w' := by
  have hb : gb < w.heap.size := (hR.lt gb rfl).2
  have hc : ∀ j, j < ns.length → w.cell? ⟨gb, j, none⟩ = (ns.map intCell)[j]? := fun j hj => hR.cellAt j (by omega)
  have HC := Lib.hid hc
  have HP := Lib.hid hP
  clear hc hP hR
  generalize hm : ns.length = m at *
  have Hm := Lib.hid hm
  clear hm
  go_enter Try.func90, Try.ntmps90
  go_wp2
  go_loopw [8] (fun i wr => ∃ k : Nat, k ≤ m ∧ i = .int .i64 k ∧ Hid (∀ j (hj : j < ns.length), j < k → p (ns[j] : Nat) = false) ∧ Hid (Below w.heap.size w wr)) (fun i _ => m - (intOf i).toNat)
  case atStart => exact ⟨0, Nat.zero_le _, rfl, fun j _ h => by omega, Below.refl _ _⟩
  case round =>
    obtain ⟨k, hk, rfl, HN, HB⟩ := hrel
    by_cases hlt : k < m
    · have hkl : k < ns.length := by rw [Hm.out]; exact hlt
      have hcx := (HB.out.cell (p := ⟨gb, k, none⟩) hb).trans (HC.out k hlt)
      rw [List.getElem?_map, List.getElem?_eq_getElem hkl, Option.map_some] at hcx
      unfold intCell at hcx
      generalize hx : ns[k] = x at hcx
      have Hx := Lib.hid hx
      have CP := Lib.hid (HP.out wr (Ext.of_below HB.out) x)
      clear hx
      rcases hpx : p (x : Int) with _ | _
      · rw [hpx] at CP
        have Hpx := Lib.hid hpx
        clear hpx
        go_wp2_with (go_at_call 18; refine CP.out.mono ?_; rintro e w2 ⟨rfl, hb2⟩; have hb2 := Lib.hid hb2)
        go_roundw
        case rel => exact ⟨k + 1, by omega, by go_num, fun j hj hjk => by
          rcases Nat.lt_or_ge j k with h | h
          · exact HN.out j hj h
          · obtain rfl : j = k := by omega
            rw [Hx.out]; exact Hpx.out, HB.out.trans (hb2.out.mono HB.out.size)⟩
        case measure => simp [intOf]; omega
      · rw [hpx] at CP
        have Hfin : Hid (ns.findIdx? (fun n : Nat => p n) = some k) := by
          show _ = _
          rw [List.findIdx?_eq_some_iff_getElem]
          exact ⟨hkl, by rw [Hx.out]; exact hpx, fun j hj => by rw [HN.out j (by omega) hj]; simp⟩
        clear hpx
        go_wp2_with (go_at_call 18; refine CP.out.mono ?_; rintro e w2 ⟨rfl, hb2⟩; have hb2 := Lib.hid hb2)
        go_returns
        exact ⟨by rw [Hfin.out]; rfl, HB.out.trans (hb2.out.mono HB.out.size)⟩
    · obtain rfl : k = m := by omega
      have Hfin : Hid (ns.findIdx? (fun n : Nat => p n) = none) := by
        show _ = _
        rw [List.findIdx?_eq_none_iff]
        intro x hx
        obtain ⟨j, hj, rfl⟩ := List.getElem_of_mem hx
        exact HN.out j hj (by rw [← Hm.out]; exact hj)
      go_wp2
      go_returns
      exact ⟨by rw [Hfin.out]; rfl, HB.out⟩

theorem owns_setCells {e n c : Nat} : ∀ (vs : List Value) (o : Nat) (xs : List Value) (w : World), w.ownsRow 0 e 1 (.slice (some ⟨gb, 0, none⟩) n c) n xs →
    ∃ ys, (w.setCells gb o vs).ownsRow 0 e 1 (.slice (some ⟨gb, 0, none⟩) n c) n ys ∧ ys.take o = xs.take o ∧ Ext (Xk gb) (Xk gb) w (w.setCells gb o vs)
  | [], o, xs, w, h => ⟨xs, h, rfl, Ext.refl _ _⟩
  | v :: vs, o, xs, w, h => by
    obtain ⟨ys, h1, h2, h3⟩ := owns_setCells vs (o + 1) (xs.set o v) (w.setCell ⟨gb, o, none⟩ v) (h.stored o v).1
    refine ⟨ys, h1, ?_, ((Ext.refl _ w).setCell (p := ⟨gb, o, none⟩) (Xk_same gb) v).trans h3⟩
    have := congrArg (List.take o) h2
    rw [List.take_take, List.take_take, Nat.min_eq_left (by omega)] at this
    rw [this, List.take_set_of_le (by omega)]

theorem owns_cut {e n c k : Nat} {xs : List Value} {w : World} (h : w.ownsRow 0 e 1 (.slice (some ⟨gb, 0, none⟩) n c) n xs) (hk : k ≤ n) : w.ownsRow 0 e 1 (.slice (some ⟨gb, 0, none⟩) k c) k (xs.take k) := by
  obtain ⟨h1, h2⟩ := h
  rcases h2 with ⟨h0, _⟩ | ⟨g', cap', cur, hv, hg, hh, hn, hcap, hsz, htake⟩
  · cases h0
  · cases hv
    refine ⟨by simp; omega, .inr ⟨gb, c, cur, rfl, hg, hh, by omega, hcap, hsz, ?_⟩⟩
    rw [← htake, List.take_take, Nat.mul_one, Nat.mul_one, Nat.min_eq_left hk]

def liveL (p : Int → Bool) (ns : List Nat) : List Nat := ns.filter (fun n : Nat => !p n)

set_option maxRecDepth 100000 in
set_option maxHeartbeats 1000000 in
theorem del_any (hP : PredX gb g p w) (hR : w.ownsRow 0 3 1 (.slice (some ⟨gb, 0, none⟩) ns.length cap) ns.length (ns.map intCell)) (hl : ns.length ≤ 1000000) :
    Calls Try.prog 80 #[.slice (some ⟨gb, 0, none⟩) ns.length cap, .func (.func 18) #[.pointer (some ⟨g, 0, none⟩)] #[]] w fun e w' => e = .returned (.slice (some ⟨gb, 0, none⟩) (liveL p ns).length cap) ∧
      w'.ownsRow 0 3 1 (.slice (some ⟨gb, 0, none⟩) (liveL p ns).length cap) (liveL p ns).length ((liveL p ns).map intCell) ∧ Ext (Xk gb) (Xk gb) w w' := by
  have CI := Lib.hid (ixf_any hP hR hl)
  obtain ⟨hb, hcap, hcm⟩ : gb < w.heap.size ∧ ns.length ≤ cap ∧ cap ≤ maxLen := by
    refine ⟨(hR.lt gb rfl).2, ?_⟩
    rcases hR.2 with ⟨h, _⟩ | ⟨g', cap', cur, h, _, _, h1, h2, _⟩
    · cases h
    · cases h
      exact ⟨h1, h2⟩
  unfold maxLen at hcm
  have HP := Lib.hid hP
  have HR := Lib.hid hR
  clear hP hR
  rcases hf : ns.findIdx? (fun n : Nat => p n) with _ | i0
  · rw [hf] at CI
    have Hf : Hid (liveL p ns = ns) := by
      rw [List.findIdx?_eq_none_iff] at hf
      exact List.filter_eq_self.2 fun x hx => by simp [hf x hx]
    clear hf
    generalize hm : ns.length = m at *
    have Hm := Lib.hid hm
    clear hm
    go_enter Try.func80, Try.ntmps80
    go_wp2_with (go_at_call 90; refine CI.out.mono ?_; rintro e w2 ⟨rfl, hb2⟩; have hb2 := Lib.hid hb2)
    go_returns
    rw [Hf.out, Hm.out]
    exact ⟨rfl, owns_of HR.out (fun b h => hb2.out.block b (HR.out.lt b h).2), Ext.of_below hb2.out⟩
  · rw [hf] at CI
    rw [List.findIdx?_eq_some_iff_getElem] at hf
    obtain ⟨hi0, hpi, hpj⟩ := hf
    have H0 : Hid ((ns.take i0) = (ns.take (i0 + 1)).filter (fun n : Nat => !p n)) := by
      show _ = _
      rw [List.take_succ_eq_append_getElem hi0, List.filter_append]
      have : (ns.take i0).filter (fun n : Nat => !p n) = ns.take i0 := List.filter_eq_self.2 fun x hx => by
        obtain ⟨j, hj, rfl⟩ := List.getElem_of_mem hx
        simp at hj
        have := hpj j (by omega)
        simpa using this
      rw [this]
      simp [hpi]
    clear hpi hpj
    generalize hm : ns.length = m at *
    have Hm := Lib.hid hm
    have hz : ∀ w : World, (zeroValue 3).run Try.prog w = .ok (.int .i64 0) w := fun w => by kernel_rfl
    have HZ := Lib.hid hz
    clear hm hz
    have CI2 : Hid (Calls Try.prog 90 #[.slice (some ⟨gb, 0, none⟩) m cap, .func (.func 18) #[.pointer (some ⟨g, 0, none⟩)] #[]] w fun e w' => e = .returned (.int .i64 (i0 : Int)) ∧ Below w.heap.size w w') := CI.out
    clear CI
    have hi1 : ((i0 : Int) == -1) = false := by simp
    go_enter Try.func80, Try.ntmps80
    go_wp2_with (go_at_call 90; refine CI2.out.mono ?_; rintro e w2 ⟨rfl, hb2⟩; have hb2 := Lib.hid hb2)
    go_loopw [5, 6] (fun i j wr => ∃ (a k : Nat) (xs : List Nat), k ≤ m ∧ a < k ∧ i = .int .i64 (a : Int) ∧ j = .int .i64 (k : Int) ∧ Hid (xs.length = m) ∧ Hid (wr.ownsRow 0 3 1 (.slice (some ⟨gb, 0, none⟩) m cap) m (xs.map intCell)) ∧ Hid (xs.take a = (ns.take k).filter (fun n : Nat => !p n)) ∧ Hid (xs.drop k = ns.drop k) ∧ Hid (Ext (Xk gb) (Xk gb) w wr)) (fun _ j _ => m - (intOf j).toNat)
    case atStart => exact ⟨i0, i0 + 1, ns, by omega, by omega, rfl, by go_num, Hm.out, owns_of HR.out (fun b h => hb2.out.block b (HR.out.lt b h).2), H0.out, rfl, Ext.of_below hb2.out⟩
    case round =>
      obtain ⟨a, k, xs, hk, hak, rfl, rfl, HL, HX, HT, HD, HE⟩ := hrel
      have lgb : gb < wr.heap.size := (HX.out.lt gb rfl).2
      by_cases hlt : k < m
      · have hkl : k < ns.length := by rw [Hm.out]; exact hlt
        have hxk : xs[k]? = some ns[k] := by
          have := congrArg (fun l => l[0]?) HD.out
          simp only [List.getElem?_drop, Nat.add_zero] at this
          rw [this, List.getElem?_eq_getElem hkl]
        have hcx : wr.cell? ⟨gb, k, none⟩ = some (intCell ns[k]) := by
          rw [HX.out.cellAt k (by omega), List.getElem?_map, hxk]
          rfl
        have htk : ns.take (k + 1) = ns.take k ++ [ns[k]] := List.take_succ_eq_append_getElem hkl
        have hdk : xs.drop (k + 1) = ns.drop (k + 1) := by
          have := congrArg (List.drop 1) HD.out
          simpa [List.drop_drop, Nat.add_comm] using this
        unfold intCell at hcx
        have HXK := Lib.hid hxk
        have HTK := Lib.hid htk
        have HDK := Lib.hid hdk
        clear hxk htk hdk
        generalize hx : ns[k] = x at hcx HXK HTK
        have CP := Lib.hid (HP.out wr HE.out x)
        clear hx
        rcases hpx : p (x : Int) with _ | _
        · rw [hpx] at CP
          have Hpx := Lib.hid hpx
          clear hpx
          have f0 : ∀ W, Below wr.heap.size wr W → W.frozen? ⟨gb, a, none⟩ = false ∧ ∃ u, W.cell? ⟨gb, a, none⟩ = some u := fun W hW => by
            have := owns_of (w' := W) HX.out (fun b h => hW.block b (HX.out.lt b h).2)
            refine ⟨this.frozenAt a, ?_⟩
            have hal : a < xs.length := by rw [HL.out]; omega
            exact ⟨_, (this.cellAt a (by omega)).trans (by rw [List.getElem?_map, List.getElem?_eq_getElem hal]; rfl)⟩
          have F0 := Lib.hid f0
          clear f0
          have ha0 : (0 : Int) ≤ (a : Int) := by omega
          have ha1 : (a : Int) < (m : Int) := by omega
          go_wp2_with (go_at_call 18; refine CP.out.mono ?_; rintro e w3 ⟨rfl, hb3⟩; obtain ⟨f1, u, f2⟩ := F0.out w3 hb3; have hb3 := Lib.hid hb3)
          have HX3 := owns_of (w' := w3) HX.out (fun b h => hb3.out.block b (HX.out.lt b h).2)
          have HX4 := (HX3.stored a (.int .i64 (x : Int))).1
          have hmap : (xs.map intCell).set a (.int .i64 (x : Int)) = (xs.set a x).map intCell := by rw [List.map_set]; rfl
          rw [hmap] at HX4
          have HX4 := Lib.hid HX4
          have HE4 : Hid (Ext (Xk gb) (Xk gb) w (w3.setCell ⟨gb, a, none⟩ (.int .i64 (x : Int)))) := (HE.out.of_below' hb3.out).setCell (p := ⟨gb, a, none⟩) (Xk_same gb) _
          have hT4 : Hid ((xs.set a x).take (a + 1) = (ns.take (k + 1)).filter (fun n : Nat => !p n)) := by
            show _ = _
            have hal : a < xs.length := by rw [HL.out]; omega
            rw [HTK.out, List.filter_append, ← HT.out, List.take_succ_eq_append_getElem (by simpa using hal), List.take_set_of_le (Nat.le_refl _)]
            simp [Hpx.out]
          have hD4 : Hid ((xs.set a x).drop (k + 1) = ns.drop (k + 1)) := by
            show _ = _
            rw [← HDK.out, List.drop_set_of_lt (by omega)]
          clear HX3 hmap
          go_roundw
          case rel => exact ⟨a + 1, k + 1, xs.set a x, by omega, by omega, by go_num, by go_num, (by show _ = _; rw [List.length_set]; exact HL.out), HX4.out, hT4.out, hD4.out, HE4.out⟩
          case measure => simp [intOf]; omega
        · rw [hpx] at CP
          have Hpx := Lib.hid hpx
          clear hpx
          go_wp2_with (go_at_call 18; refine CP.out.mono ?_; rintro e w3 ⟨rfl, hb3⟩; have hb3 := Lib.hid hb3)
          have HX3 := Lib.hid (owns_of (w' := w3) HX.out (fun b h => hb3.out.block b (HX.out.lt b h).2))
          have hT4 : Hid (xs.take a = (ns.take (k + 1)).filter (fun n : Nat => !p n)) := by
            show _ = _
            rw [HTK.out, List.filter_append, ← HT.out]
            simp [Hpx.out]
          go_roundw
          case rel => exact ⟨a, k + 1, xs, by omega, by omega, rfl, by go_num, HL.out, HX3.out, hT4.out, HDK.out, HE.out.of_below' hb3.out⟩
          case measure => simp [intOf]; omega
      · obtain rfl : k = m := by omega
        have hlive : xs.take a = liveL p ns := by
          rw [HT.out, List.take_of_length_le (by rw [Hm.out]; exact Nat.le_refl _)]
          rfl
        have hla : (liveL p ns).length = a := by rw [← hlive]; simp; rw [HL.out]; omega
        have Hlive := Lib.hid hlive
        have Hla := Lib.hid hla
        have hcl : ∀ ty, (Builtin.clear_ #[26] ty #[.slice (some ⟨gb, a, none⟩) (k - a) (cap - a)]).run Try.prog wr = .ok (.tuple #[]) (wr.setCells gb a (List.replicate (k - a) (.int .i64 0))) := fun ty =>
          Lib.run_clear_slice wr 26 3 ty (.int .i64 0) Try.underlying26 HZ.out rfl rfl gb a (k - a) (cap - a) (by omega) (fun j hj => by
            have hal : a + j < xs.length := by rw [HL.out]; omega
            rw [HX.out.cellAt (a + j) (by omega), List.getElem?_map, List.getElem?_eq_getElem hal]
            rfl) (fun j hj => HX.out.frozenAt (a + j))
        obtain ⟨ys, hy1, hy2, hy3⟩ := owns_setCells (gb := gb) (List.replicate (k - a) (.int .i64 0)) a (xs.map intCell) wr HX.out
        have hyc := owns_cut hy1 (Nat.le_of_lt hak)
        rw [hy2, ← List.map_take, Hlive.out] at hyc
        have Hyc := Lib.hid hyc
        have Hy3 := Lib.hid hy3
        have ha0 : (0 : Int) ≤ (a : Int) := by omega
        have ha1 : a ≤ cap := by omega
        clear hlive hla hy1 hy2 hy3 hyc
        go_wp2_with (simp only [hcl])
        go_returns
        rw [Hla.out]
        exact ⟨rfl, Hyc.out, HE.out.trans Hy3.out⟩

end
end Go.Proofs.Ytoonkidlbnndcaa
