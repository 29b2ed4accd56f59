/-
  A scope as it is told: (*Tree).Scope.
-/
import Derived.Test.YtoonkidlbnndcaaTask
import Derived.BigRegion
namespace Go.Proofs.Ytoonkidlbnndcaa
set_option linter.unusedVariables false
set_option linter.unusedSimpArgs false
open Go.RowKit

def zeroScope : Value := .agg #[.int .i64 0, .bool false, .bool false, .slice none 0 0, .int .i64 0, .string ⟨#[]⟩]
def intCell (n : Nat) : Value := .int .i64 (n : Int)

section
variable {κ κ' : Kap} {L : Lay} {T : TreeA} {w w' : World}

theorem scopeT_nil (n : Int) (w : World) : Calls Try.prog 68 #[.pointer none, .int .i64 n] w fun e w' => e = .returned (.tuple #[zeroScope, .int .i64 2]) ∧ Below w.heap.size w w' := by
  unfold zeroScope
  go_enter Try.func68, Try.ntmps68
  go_wp2_with (go_at_call 70; refine (scope_nil _ _).mono ?_; rintro e w' ⟨rfl, rfl⟩)
  go_returns
  exact ⟨rfl, by go_grown⟩

theorem scopeT_none (R : Rep κ L T w) {n : Int} (h : T.scope? n = none) :
    Calls Try.prog 68 #[.pointer (some ⟨L.t, 0, none⟩), .int .i64 n] w fun e w' => e = .returned (.tuple #[zeroScope, .int .i64 6]) ∧ Below w.heap.size w w' := by
  have C : Hid (∀ o, _) := fun o => scope_none (R.alloc o) h
  clear R h
  unfold zeroScope
  go_enter Try.func68, Try.ntmps68
  go_wp2_with (go_at_call 70; refine (C.out _).mono ?_; rintro e w' ⟨rfl, rfl⟩)
  go_returns
  exact ⟨rfl, by go_grown⟩

set_option maxRecDepth 100000 in
set_option maxHeartbeats 4000000 in
theorem scopeT_ok (R : Rep κ L T w) {n : Int} {i o : Nat} {s : ScopeA} {x : TaskA} (h : T.scope? n = some i) (hs : T.scopes[i]? = some s) (ho : s.owner = o + 1) (hx : T.tasks[o]? = some x) (hkid : ∀ n ∈ s.kids, 1 ≤ n ∧ n ≤ T.tasks.length) (hlen : s.kids.length ≤ 1000) :
    Calls Try.prog 68 #[.pointer (some ⟨L.t, 0, none⟩), .int .i64 n] w fun e w' => ∃ v, e = .returned (.tuple #[.agg #[.int .i64 (s.owner : Int), .bool s.sup, .bool s.over, v, .int .i64 s.flt.kind, .string s.flt.text], .int .i64 0]) ∧
      w'.ownsRow 0 3 1 v s.kids.length (s.kids.map intCell) ∧ Fresh w v ∧ Below w.heap.size w w' := by
  obtain ⟨_, d1, d2, d3, d4, d5, d6, d7⟩ := R.scells hs
  have ls := (R.scope i s hs).lt
  have lx := (R.task o x hx).lt
  have t0 := (R.tcells hx).1
  rw [ho, Lay.tp_succ] at d1
  have eo : (s.owner : Int) = (o : Int) + 1 := by omega
  have HR := Lib.hid R
  have Hs := Lib.hid hs
  have C : Hid (∀ o, _) := fun o => scope_some (R.alloc o) h
  have HO := Lib.hid (owns_form (R.kid i s hs))
  have HP : Hid (∀ n ∈ s.kids, ∃ j, n = j + 1 ∧ L.tp n = .pointer (some ⟨L.tb j, 0, none⟩) ∧ w.cell? ⟨L.tb j, 0, none⟩ = some (.int .i64 ((j : Int) + 1)) ∧ L.tb j < w.heap.size) := fun n hn => by
    have hn1 := hkid n hn
    obtain ⟨j, rfl⟩ : ∃ j, n = j + 1 := ⟨n - 1, by omega⟩
    have hy : T.tasks[j]? = some (T.tasks[j]'(by omega)) := List.getElem?_eq_getElem (by omega)
    exact ⟨j, rfl, Lay.tp_succ L j, (R.tcells hy).1, (R.task j _ hy).lt⟩
  clear R hs h ho hx hkid
  rw [eo]
  clear eo
  rcases HO.out with ⟨hov, h0, h0'⟩ | ⟨ob, ocap, hov, hocap, hocm, lob, hoc, _⟩
  all_goals
    rw [hov] at d4
    clear hov HO
  · have Hnil := Lib.hid (show s.kids = [] by simpa using h0')
    clear h0 h0'
    go_enter Try.func68, Try.ntmps68
    go_wp2_with (go_at_call 70; refine (C.out _).mono ?_; rintro e w' ⟨rfl, rfl⟩)
    go_region
    go_wp2
    refine wp_loop_rounds 1 ?_
    rw [rounds_succ]
    go_wp2
    go_returns
    refine ⟨.slice none 0 0, rfl, by rw [Hnil.out]; exact World.ownsRow_nil _ _ _ _, (fun b hb => by cases hb), by go_grown⟩
  · have HC := Lib.hid hoc
    generalize hm' : s.kids.length = m at *
    have HM := Lib.hid hm'
    clear hoc hm'
    go_enter Try.func68, Try.ntmps68
    go_wp2_with (go_at_call 70; refine (C.out _).mono ?_; rintro e w' ⟨rfl, rfl⟩)
    go_region
    go_wp2
    go_loopw [46] (fun i wr => ∃ k : Nat, k ≤ m ∧ i = .int .i64 k ∧ Hid (∃ v, Blk wr (w.heap.size + 1) 76 #[.int .i64 ((o : Int) + 1), .bool s.sup, .bool s.over, v, .int .i64 s.flt.kind, .string s.flt.text] ∧ wr.ownsRow 0 3 1 v k ((s.kids.take k).map intCell) ∧ (∀ b, v.ownBlock = some b → w.heap.size + 2 ≤ b)) ∧
        Hid (Blk wr w.heap.size 76 #[.int .i64 0, .bool false, .bool false, .slice none 0 0, .int .i64 0, .string ⟨#[]⟩]) ∧ Below w.heap.size w wr ∧ w.heap.size + 1 < wr.heap.size) (fun i _ => m - (intOf i).toNat)
    case atStart =>
      refine ⟨0, Nat.zero_le _, rfl, ⟨.slice none 0 0, ?_, World.ownsRow_nil _ _ _ _, fun b hb => by cases hb⟩, ?_, by go_grown, by simp⟩
      · have := Blk.new (w.alloc (.cells #[.int .i64 0, .bool false, .bool false, .slice none 0 0, .int .i64 0, .string ⟨#[]⟩] 76)) 76 #[.int .i64 ((o : Int) + 1), .bool s.sup, .bool s.over, .slice none 0 0, .int .i64 s.flt.kind, .string s.flt.text]
        rw [World.size_alloc] at this
        exact this
      · exact (Blk.new w 76 #[.int .i64 0, .bool false, .bool false, .slice none 0 0, .int .i64 0, .string ⟨#[]⟩]).alloc _
    case round =>
    obtain ⟨k, hk, rfl, HV, HZ, hB, hszr⟩ := hrel
    obtain ⟨v, hO, hvo, hvb⟩ := HV.out
    by_cases hlt : k < m
    · have hkl : k < s.kids.length := by rw [HM.out]; exact hlt
      have hcell := (hB.cell (p := ⟨ob, k, none⟩) lob).trans (HC.out k hlt)
      rw [List.getElem?_map, List.getElem?_eq_getElem hkl, Option.map_some] at hcell
      obtain ⟨j, hj, hjp, hjc, hjl⟩ := HP.out _ (List.getElem_mem hkl)
      have hjc' := (hB.cell (p := ⟨L.tb j, 0, none⟩) hjl).trans hjc
      rw [hjp] at hcell
      have htake : (s.kids.take (k + 1)).map intCell = (s.kids.take k).map intCell ++ [.int .i64 ((j : Int) + 1)] := by
        rw [List.take_succ_eq_append_getElem hkl, List.map_append, hj]
        simp [intCell]
      have Htake := Lib.hid htake
      have o5 : wr.cell? ⟨w.heap.size + 1, 3, none⟩ = some v := hO.cell 3 rfl
      have f5 := hO.frozen 3
      have HO : Hid (Blk wr.drew (w.heap.size + 1) 76 #[.int .i64 ((o : Int) + 1), .bool s.sup, .bool s.over, v, .int .i64 s.flt.kind, .string s.flt.text]) := hO
      have Hvo : Hid (wr.drew.ownsRow 0 3 1 v k ((s.kids.take k).map intCell)) := hvo
      have Hvb := Lib.hid hvb
      have HZ : Hid (Blk wr.drew w.heap.size 76 #[.int .i64 0, .bool false, .bool false, .slice none 0 0, .int .i64 0, .string ⟨#[]⟩]) := HZ.out
      have HBB := Lib.hid (hB.trans ((Below.refl w.heap.size wr).drew))
      have hjl' : L.tb j < wr.heap.size := Nat.lt_of_lt_of_le hjl hB.size
      clear HV hO hvo hvb htake hj hjp hjc
      go_wp2
      go_region_law (first | (refine step_push rfl (.tmp 51) (.tmp 56) 26 rfl 3 1 8 _ Try.infoInt rfl (by omega) (by omega) Try.underlying26 v k _ rfl (Hvo.out.alloc _) [.int .i64 ((j : Int) + 1)] ⟨wr.heap.size, 0, none⟩ rfl (cells_new_at wr.drew #[.int .i64 ((j : Int) + 1)] _) rfl (by simp [Value.oneCell']) (by omega) ?_; intro g2 cap2 w6 hown6 hgrow6 hat6; have hO6 := Lib.hid ((HO.out.alloc (.cells #[.int .i64 ((j : Int) + 1)] 3)).grown hgrow6 (fun h => by have := Hvb.out _ h; omega)); have o6 : w6.cell? ⟨w.heap.size + 1, 3, none⟩ = some v := hO6.out.cell 3 rfl; have f6 : w6.frozen? ⟨w.heap.size + 1, 3, none⟩ = false := hO6.out.frozen 3; have hown6 := Lib.hid hown6; have hgrow6 := Lib.hid hgrow6; have hat6 := Lib.hid hat6))
      all_goals
        have hg2 : w.heap.size + 2 ≤ g2 := by
          rcases hat6.out with h | h
          · exact Hvb.out _ h
          · simp at h; omega
        have hne2 : (Value.slice (some ⟨g2, 0, none⟩) (k + 1) cap2).ownBlock ≠ some (w.heap.size + 1) := by simp [Value.ownBlock]; omega
        have hszd : w.heap.size ≤ wr.drew.heap.size := Nat.le_of_lt (Nat.lt_of_succ_lt hszr)
        have hZ6 : Hid (Blk w6 w.heap.size 76 #[.int .i64 0, .bool false, .bool false, .slice none 0 0, .int .i64 0, .string ⟨#[]⟩]) :=
          (HZ.out.alloc _).grown hgrow6.out (fun h => by have := Hvb.out _ h; omega)
        have hB6 : Below w.heap.size w w6 := HBB.out.trans (((Below.refl w.heap.size wr.drew).alloc hszd _).grown hgrow6.out (by simp; omega) (fun b hb => by have := Hvb.out _ hb; omega))
        go_wp2
        go_roundw
        case rel =>
          refine ⟨k + 1, by omega, by go_num, ⟨.slice (some ⟨g2, 0, none⟩) (k + 1) cap2, hO6.out.set_ 3 _, ?_, fun b hb => ?_⟩, ?_, hB6.setCell (p := ⟨w.heap.size + 1, 3, none⟩) (show w.heap.size ≤ w.heap.size + 1 by omega) _, ?_⟩
          · rw [Htake.out]; exact ownsRow_setCell_other hown6.out hne2 _
          · have hb : g2 = b := by simpa [Value.ownBlock] using hb
            omega
          · exact hZ6.out.far (fun (e : w.heap.size = w.heap.size + 1) => by omega) _
          · have := hO6.out.lt; simpa [World.setCell] using this
        case measure => simp [intOf]; omega
    · obtain rfl : k = m := by omega
      obtain ⟨vad, vcap, rfl⟩ := owns_shape hvo
      have c0 : wr.cell? ⟨w.heap.size + 1, 0, none⟩ = some (.int .i64 ((o : Int) + 1)) := hO.cell 0 rfl
      have z0 : wr.cell? ⟨w.heap.size, 0, none⟩ = some (.int .i64 0) := HZ.out.cell 0 rfl
      have y0 := HZ.out.frozen 0
      have c1 : wr.cell? ⟨w.heap.size + 1, 1, none⟩ = some (.bool s.sup) := hO.cell 1 rfl
      have z1 : wr.cell? ⟨w.heap.size, 1, none⟩ = some (.bool false) := HZ.out.cell 1 rfl
      have y1 := HZ.out.frozen 1
      have c2 : wr.cell? ⟨w.heap.size + 1, 2, none⟩ = some (.bool s.over) := hO.cell 2 rfl
      have z2 : wr.cell? ⟨w.heap.size, 2, none⟩ = some (.bool false) := HZ.out.cell 2 rfl
      have y2 := HZ.out.frozen 2
      have c3 : wr.cell? ⟨w.heap.size + 1, 3, none⟩ = some (.slice vad k vcap) := hO.cell 3 rfl
      have z3 : wr.cell? ⟨w.heap.size, 3, none⟩ = some (.slice none 0 0) := HZ.out.cell 3 rfl
      have y3 := HZ.out.frozen 3
      have c4 : wr.cell? ⟨w.heap.size + 1, 4, none⟩ = some (.int .i64 s.flt.kind) := hO.cell 4 rfl
      have z4 : wr.cell? ⟨w.heap.size, 4, none⟩ = some (.int .i64 0) := HZ.out.cell 4 rfl
      have y4 := HZ.out.frozen 4
      have c5 : wr.cell? ⟨w.heap.size + 1, 5, none⟩ = some (.string s.flt.text) := hO.cell 5 rfl
      have z5 : wr.cell? ⟨w.heap.size, 5, none⟩ = some (.string ⟨#[]⟩) := HZ.out.cell 5 rfl
      have y5 := HZ.out.frozen 5
      have hB := Lib.hid hB
      have Hvo := Lib.hid hvo
      have Hvb := Lib.hid hvb
      have F := ((((((HZ.out.set_ 0 (.int .i64 ((o : Int) + 1))).set_ 1 (.bool s.sup)).set_ 2 (.bool s.over)).set_ 3 (.slice vad k vcap)).set_ 4 (.int .i64 s.flt.kind)).set_ 5 (.string s.flt.text))
      have hF := Lib.hid F
      clear HV hO hvo hvb HZ F
      go_wp2
      have F := hF.out
      generalize hW : ((((((wr.setCell ⟨w.heap.size, 0, none⟩ (.int .i64 ((o : Int) + 1))).setCell ⟨w.heap.size, 1, none⟩ (.bool s.sup)).setCell ⟨w.heap.size, 2, none⟩ (.bool s.over)).setCell ⟨w.heap.size, 3, none⟩ (.slice vad k vcap)).setCell ⟨w.heap.size, 4, none⟩ (.int .i64 s.flt.kind)).setCell ⟨w.heap.size, 5, none⟩ (.string s.flt.text)) = W at F ⊢
      have r0 : W.cell? ⟨w.heap.size, 0, none⟩ = some (.int .i64 ((o : Int) + 1)) := F.cell 0 rfl
      have r1 : W.cell? ⟨w.heap.size, 1, none⟩ = some (.bool s.sup) := F.cell 1 rfl
      have r2 : W.cell? ⟨w.heap.size, 2, none⟩ = some (.bool s.over) := F.cell 2 rfl
      have r3 : W.cell? ⟨w.heap.size, 3, none⟩ = some (.slice vad k vcap) := F.cell 3 rfl
      have r4 : W.cell? ⟨w.heap.size, 4, none⟩ = some (.int .i64 s.flt.kind) := F.cell 4 rfl
      have r5 : W.cell? ⟨w.heap.size, 5, none⟩ = some (.string s.flt.text) := F.cell 5 rfl
      have hW := Lib.hid hW
      clear hF F c0 z0 y0 c1 z1 y1 c2 z2 y2 c3 z3 y3 c4 z4 y4 c5 z5 y5
      refine bodyPost_ret (by simp [results, Try.results68, go_sem, r0, r1, r2, r3, r4, r5]; try rfl) rfl ?_
      refine ⟨.slice vad k vcap, rfl, ?_, fun b hb => by have := Hvb.out b hb; omega, ?_⟩
      · rw [← hW.out]
        have := Hvo.out
        rw [List.take_of_length_le (by rw [HM.out]; exact Nat.le_refl _)] at this
        have hne : (Value.slice vad k vcap).ownBlock ≠ some w.heap.size := fun h => by have := Hvb.out _ h; omega
        repeat (first | (with_reducible exact this) | (with_reducible refine ownsRow_setCell_other ?_ hne _))
      · rw [← hW.out]
        repeat' (first | (with_reducible exact hB.out) | (with_reducible refine Below.setCell ?_ ?_ _) | exact Nat.le_refl _)

end
end Go.Proofs.Ytoonkidlbnndcaa
