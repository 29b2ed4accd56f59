/-
  A task as it is told: (*Tree).Task.
-/
import Derived.Test.YtoonkidlbnndcaaSpawn
import Derived.Deep.RegionLaw
namespace Go.Proofs.Ytoonkidlbnndcaa
set_option linter.unusedVariables false
set_option linter.unusedSimpArgs false
open Go.RowKit

def lk (n : Nat) : Int := if n = 0 then 3 else 2
def linkCells (n : Nat) : List Value := [.int .i64 (lk n), .int .i64 (n : Int)]
def toldFlt (x : TaskA) : Flt := if x.ended then x.flt else .none
def zeroTask : Value := .agg #[.int .i64 0, .bool false, .bool false, .int .i64 0, .string ⟨#[]⟩, .slice none 0 0]

section
variable {κ κ' : Kap} {L : Lay} {T : TreeA} {w w' : World}

theorem link_any (R : Rep κ L T w) {n : Nat} (hn : n ≤ T.scopes.length) :
    Calls Try.prog 69 #[L.sp n] w fun e w' => e = .returned (.agg #[.int .i64 (lk n), .int .i64 (n : Int)]) ∧ Below w.heap.size w w' := by
  by_cases h0 : n = 0
  · subst h0
    exact link_nil w
  · obtain ⟨j, rfl⟩ : ∃ j, n = j + 1 := ⟨n - 1, by omega⟩
    rw [Lay.sp_succ]
    have e1 : lk (j + 1) = 2 := by simp [lk]
    have e2 : ((j + 1 : Nat) : Int) = (j : Int) + 1 := by omega
    rw [e1, e2]
    exact link_some R (List.getElem?_eq_getElem (by omega))

theorem owns_shape {w : World} {e size n : Nat} {v : Value} {xs : List Value} (h : w.ownsRow 0 e size v n xs) : ∃ ad cap, v = .slice ad n cap := by
  rcases h.2 with ⟨rfl, rfl⟩ | ⟨g, cap, cur, rfl, _⟩
  · exact ⟨_, _, rfl⟩
  · exact ⟨_, _, rfl⟩

theorem task_nil (n : Int) (w : World) : Calls Try.prog 43 #[.pointer none, .int .i64 n] w fun e w' => e = .returned (.tuple #[zeroTask, .int .i64 2]) ∧ Below w.heap.size w w' := by
  unfold zeroTask
  go_enter Try.func43, Try.ntmps43
  go_wp2
  go_returns
  exact ⟨rfl, by go_grown⟩

theorem task_none (R : Rep κ L T w) {n : Int} (h : n < 1 ∨ (T.tasks.length : Int) < n) :
    Calls Try.prog 43 #[.pointer (some ⟨L.t, 0, none⟩), .int .i64 n] w fun e w' => e = .returned (.tuple #[zeroTask, .int .i64 6]) ∧ Below w.heap.size w w' := by
  obtain ⟨c0, c1⟩ := R.treecells
  have hlt := R.tree.lt
  obtain ⟨ad, cap, hv, hcap, hm⟩ := owns_len R.ts
  rw [hv] at c0
  unfold zeroTask
  by_cases h1 : n < 1
  · clear R hv h
    go_enter Try.func43, Try.ntmps43
    go_wp2
    go_returns
    exact ⟨rfl, by go_grown⟩
  · have h2 : (T.tasks.length : Int) < n := by omega
    clear R hv h
    go_enter Try.func43, Try.ntmps43
    go_wp2
    go_returns
    exact ⟨rfl, by go_grown⟩

theorem Rep.innCell (R : Rep κ L T w) {i : Nat} {x : TaskA} (hx : T.tasks[i]? = some x) (hin : x.inn ≤ T.scopes.length) :
    (w.cell? ⟨L.tb i, 1, none⟩ = some (.pointer none) ∧ x.inn = 0) ∨
    ∃ j, w.cell? ⟨L.tb i, 1, none⟩ = some (.pointer (some ⟨L.sb j, 0, none⟩)) ∧ x.inn = j + 1 ∧ w.cell? ⟨L.sb j, 0, none⟩ = some (.int .i64 ((j : Int) + 1)) ∧ L.sb j < w.heap.size := by
  have d1 := (R.tcells hx).2.1
  by_cases h0 : x.inn = 0
  · rw [h0, Lay.sp_zero] at d1
    exact .inl ⟨d1, h0⟩
  · obtain ⟨j, hj⟩ : ∃ j, x.inn = j + 1 := ⟨x.inn - 1, by omega⟩
    rw [hj, Lay.sp_succ] at d1
    have hs : T.scopes[j]? = some (T.scopes[j]'(by omega)) := List.getElem?_eq_getElem (by omega)
    exact .inr ⟨j, d1, hj, (R.scells hs).1, (R.scope j _ hs).lt⟩

set_option maxRecDepth 100000 in
set_option maxHeartbeats 4000000 in
theorem task_ok (R : Rep κ L T w) {i : Nat} {x : TaskA} (hx : T.tasks[i]? = some x) (hin : x.inn ≤ T.scopes.length) (hop : ∀ n ∈ x.opn, n ≤ T.scopes.length) (hlen : x.opn.length ≤ 1000) (hi : i ≤ 1000) :
    Calls Try.prog 43 #[.pointer (some ⟨L.t, 0, none⟩), .int .i64 ((i : Int) + 1)] w fun e w' => ∃ v, e = .returned (.tuple #[.agg #[.int .i64 (x.inn : Int), .bool x.ended, .bool x.leaving, .int .i64 (toldFlt x).kind, .string (toldFlt x).text, v], .int .i64 0]) ∧
      w'.ownsRow 0 37 2 v x.opn.length (x.opn.flatMap linkCells) ∧ Fresh w v ∧ Below w.heap.size w w' := by
  obtain ⟨c0, _⟩ := R.treecells
  have lt0 := R.tree.lt
  have hil : i < T.tasks.length := (List.getElem?_eq_some_iff.1 hx).1
  rcases owns_form R.ts with ⟨_, h0, _⟩ | ⟨g, cap, hv, hcap, hm, lg, hc, _⟩
  · omega
  rw [hv] at c0
  have hci := hc i (by omega)
  rw [List.getElem?_map, List.getElem?_range (by omega)] at hci
  simp only [Option.map_some] at hci
  obtain ⟨_, d1, d2, d3, d4, d5, d6⟩ := R.tcells hx
  have lx := (R.task i x hx).lt
  have HR := Lib.hid R
  have Hx := Lib.hid hx
  generalize hn : T.tasks.length = n at *
  have e1 : IntKind.i64.wrap ((i : Int) + 1 - 1) = (i : Int) := by rw [IntWalk.i64_in _ (by omega)]; omega
  have HD := Lib.hid (Rep.innCell HR.out Hx.out hin)
  have HO := Lib.hid (owns_form (R.opn i x hx))
  have HP := Lib.hid hop
  generalize he : x.ended = en at *
  clear R hx hc hv hn d1 hop
  rcases HD.out with ⟨d1, hin0⟩ | ⟨j, d1, hin0, ds, ls⟩
  all_goals
    have Hin := Lib.hid hin0
    clear hin0 hin HD
    rcases HO.out with ⟨hov, h0, h0'⟩ | ⟨ob, ocap, hov, hocap, hocm, lob, hoc, _⟩
  all_goals
    rw [hov] at d2
    cases en
  all_goals
    have He := Lib.hid he
    clear he hov HO
  case inl.inl.false =>
    have Hnil := Lib.hid (show x.opn = [] by simpa using h0')
    clear h0 h0'
    go_enter Try.func43, Try.ntmps43
    go_wp2
    go_region
    go_wp2
    refine wp_loop_rounds 1 ?_
    rw [rounds_succ]
    go_wp2
    go_returns
    refine ⟨.slice none 0 0, ?_, by rw [Hnil.out]; exact World.ownsRow_nil _ _ _ _, (fun b hb => by cases hb), by go_grown⟩
    rw [Hin.out, toldFlt, He.out]; rfl
  case inl.inl.true =>
    have Hnil := Lib.hid (show x.opn = [] by simpa using h0')
    clear h0 h0'
    go_enter Try.func43, Try.ntmps43
    go_wp2
    go_region
    go_wp2
    refine wp_loop_rounds 1 ?_
    rw [rounds_succ]
    go_wp2
    go_returns
    refine ⟨.slice none 0 0, ?_, by rw [Hnil.out]; exact World.ownsRow_nil _ _ _ _, (fun b hb => by cases hb), by go_grown⟩
    rw [Hin.out, toldFlt, He.out]; rfl
  case inr.inl.false =>
    have Hnil := Lib.hid (show x.opn = [] by simpa using h0')
    clear h0 h0'
    go_enter Try.func43, Try.ntmps43
    go_wp2
    go_region
    go_wp2
    refine wp_loop_rounds 1 ?_
    rw [rounds_succ]
    go_wp2
    go_returns
    refine ⟨.slice none 0 0, ?_, by rw [Hnil.out]; exact World.ownsRow_nil _ _ _ _, (fun b hb => by cases hb), by go_grown⟩
    rw [Hin.out, toldFlt, He.out]; rfl
  case inr.inl.true =>
    have Hnil := Lib.hid (show x.opn = [] by simpa using h0')
    clear h0 h0'
    go_enter Try.func43, Try.ntmps43
    go_wp2
    go_region
    go_wp2
    refine wp_loop_rounds 1 ?_
    rw [rounds_succ]
    go_wp2
    go_returns
    refine ⟨.slice none 0 0, ?_, by rw [Hnil.out]; exact World.ownsRow_nil _ _ _ _, (fun b hb => by cases hb), by go_grown⟩
    rw [Hin.out, toldFlt, He.out]; rfl
  case inl.inr.false =>
    have HC := Lib.hid hoc
    generalize hm' : x.opn.length = m at *
    have HM := Lib.hid hm'
    clear hoc hm'
    go_enter Try.func43, Try.ntmps43
    go_wp2
    go_region
    go_wp2
    go_loopw [71] (fun i wr => ∃ k : Nat, k ≤ m ∧ i = .int .i64 k ∧ Hid (∃ v, Blk wr (w.heap.size + 1) 32 #[.int .i64 0, .bool false, .bool x.leaving, .int .i64 0, .string ⟨#[]⟩, v] ∧ wr.ownsRow 0 37 2 v k ((x.opn.take k).flatMap linkCells) ∧ (∀ b, v.ownBlock = some b → w.heap.size + 2 ≤ b)) ∧
        Hid (Blk wr w.heap.size 32 #[.int .i64 0, .bool false, .bool false, .int .i64 0, .string ⟨#[]⟩, .slice none 0 0]) ∧ Below w.heap.size w wr ∧ w.heap.size + 1 < wr.heap.size) (fun i _ => m - (intOf i).toNat)
    case atStart =>
      refine ⟨0, Nat.zero_le _, rfl, ⟨.slice none 0 0, ?_, World.ownsRow_nil _ _ _ _, fun b hb => by cases hb⟩, ?_, by go_grown, by simp⟩
      · have := Blk.new (w.alloc (.cells #[.int .i64 0, .bool false, .bool false, .int .i64 0, .string ⟨#[]⟩, .slice none 0 0] 32)) 32 #[.int .i64 0, .bool false, .bool x.leaving, .int .i64 0, .string ⟨#[]⟩, .slice none 0 0]
        rw [World.size_alloc] at this
        exact this
      · exact (Blk.new w 32 #[.int .i64 0, .bool false, .bool false, .int .i64 0, .string ⟨#[]⟩, .slice none 0 0]).alloc _
    case round =>
      obtain ⟨k, hk, rfl, HV, HZ, hB, hszr⟩ := hrel
      obtain ⟨v, hO, hvo, hvb⟩ := HV.out
      by_cases hlt : k < m
      · have hkl : k < x.opn.length := by rw [HM.out]; exact hlt
        have hcell := (hB.cell (p := ⟨ob, k, none⟩) lob).trans (HC.out k hlt)
        rw [List.getElem?_map, List.getElem?_eq_getElem hkl, Option.map_some] at hcell
        have LK : Hid (∀ W, Below w.heap.size w W → Calls Try.prog 69 #[L.sp x.opn[k]] W _) := fun W hW => link_any (HR.out.below hW) (HP.out _ (List.getElem_mem hkl))
        have htake : (x.opn.take (k + 1)).flatMap linkCells = (x.opn.take k).flatMap linkCells ++ linkCells x.opn[k] := by
          rw [List.take_succ_eq_append_getElem hkl, List.flatMap_append]
          simp
        have Htake := Lib.hid htake
        have o5 : wr.cell? ⟨w.heap.size + 1, 5, none⟩ = some v := hO.cell 5 rfl
        have f5 := hO.frozen 5
        have HO := Lib.hid hO
        have Hvo := Lib.hid hvo
        have Hvb := Lib.hid hvb
        have HBB := Lib.hid (hB.trans ((Below.refl w.heap.size wr).drew))
        have hbs := hB.size
        generalize L.sp x.opn[k] = p at *
        generalize x.opn[k] = q at *
        clear HV hO hvo hvb htake
        go_wp2
        go_region_law (first | (refine step_push rfl (.tmp 76) (.tmp 79) 30 rfl 37 2 16 _ Try.infoLink rfl (by omega) (by omega) Try.underlying30 v k _ rfl (hown5.out.alloc _) [.int .i64 (lk q), .int .i64 (q : Int)] ⟨w5.heap.size, 0, none⟩ rfl (cells_new_at w5 #[.int .i64 (lk q), .int .i64 (q : Int)] _) rfl (by simp [Value.oneCell']) (by omega) ?_; intro g2 cap2 w6 hown6 hgrow6 hat6; have hO6 := Lib.hid ((hO5.out.alloc (.cells #[.int .i64 (lk q), .int .i64 (q : Int)] 37)).grown hgrow6 (fun h => by have := Hvb.out _ h; omega)); have o6 : w6.cell? ⟨w.heap.size + 1, 5, none⟩ = some v := hO6.out.cell 5 rfl; have f6 : w6.frozen? ⟨w.heap.size + 1, 5, none⟩ = false := hO6.out.frozen 5; have hown6 := Lib.hid hown6; have hgrow6 := Lib.hid hgrow6; have hat6 := Lib.hid hat6) | (go_simp; go_at_call 69; refine (LK.out _ HBB.out).mono ?_; rintro e w5 ⟨rfl, hb5⟩; have hown5 := Lib.hid (owns_of Hvo.out (fun b hb => hb5.block b (Hvo.out.lt b hb).2)); have hO5 := Lib.hid (HO.out.of (hb5.block _ HO.out.lt)); have o5' : w5.cell? ⟨w.heap.size + 1, 5, none⟩ = some v := hO5.out.cell 5 rfl; have hs5 : w.heap.size + 1 < w5.heap.size := hO5.out.lt; have hb5 := Lib.hid hb5))
        all_goals
          have hg2 : w.heap.size + 2 ≤ g2 := by
            rcases hat6.out with h | h
            · exact Hvb.out _ h
            · simp at h; omega
          have hne2 : (Value.slice (some ⟨g2, 0, none⟩) (k + 1) cap2).ownBlock ≠ some (w.heap.size + 1) := by simp [Value.ownBlock]; omega
          have hZ6 : Hid (Blk w6 w.heap.size 32 #[.int .i64 0, .bool false, .bool false, .int .i64 0, .string ⟨#[]⟩, .slice none 0 0]) :=
            ((HZ.out.of (hb5.out.block _ HZ.out.lt)).alloc _).grown hgrow6.out (fun h => by have := Hvb.out _ h; omega)
          have hB6 : Below w.heap.size w w6 := (HBB.out.trans (hb5.out.mono hbs)).trans (((Below.refl w.heap.size w5).alloc (by omega) _).grown hgrow6.out (by simp; omega) (fun b hb => by have := Hvb.out _ hb; omega))
          go_wp2
          go_roundw
          case rel =>
            refine ⟨k + 1, by omega, by go_num, ⟨.slice (some ⟨g2, 0, none⟩) (k + 1) cap2, hO6.out.set_ 5 _, ?_, fun b hb => ?_⟩, ?_, hB6.setCell (p := ⟨w.heap.size + 1, 5, none⟩) (show w.heap.size ≤ w.heap.size + 1 by omega) _, ?_⟩
            · rw [Htake.out]; exact ownsRow_setCell_other hown6.out hne2 _
            · have hb : g2 = b := by simpa [Value.ownBlock] using hb
              omega
            · exact hZ6.out.far (fun (e : w.heap.size = w.heap.size + 1) => by omega) _
            · have := hO6.out.lt; simpa [World.setCell] using this
          case measure => simp [intOf]; omega
      · obtain rfl : k = m := by omega
        obtain ⟨vad, vcap, rfl⟩ := owns_shape hvo
        have c0 : wr.cell? ⟨w.heap.size + 1, 0, none⟩ = some (.int .i64 0) := hO.cell 0 rfl
        have z0 : wr.cell? ⟨w.heap.size, 0, none⟩ = some (.int .i64 0) := HZ.out.cell 0 rfl
        have y0 := HZ.out.frozen 0
        have c1 : wr.cell? ⟨w.heap.size + 1, 1, none⟩ = some (.bool false) := hO.cell 1 rfl
        have z1 : wr.cell? ⟨w.heap.size, 1, none⟩ = some (.bool false) := HZ.out.cell 1 rfl
        have y1 := HZ.out.frozen 1
        have c2 : wr.cell? ⟨w.heap.size + 1, 2, none⟩ = some (.bool x.leaving) := hO.cell 2 rfl
        have z2 : wr.cell? ⟨w.heap.size, 2, none⟩ = some (.bool false) := HZ.out.cell 2 rfl
        have y2 := HZ.out.frozen 2
        have c3 : wr.cell? ⟨w.heap.size + 1, 3, none⟩ = some (.int .i64 0) := hO.cell 3 rfl
        have z3 : wr.cell? ⟨w.heap.size, 3, none⟩ = some (.int .i64 0) := HZ.out.cell 3 rfl
        have y3 := HZ.out.frozen 3
        have c4 : wr.cell? ⟨w.heap.size + 1, 4, none⟩ = some (.string ⟨#[]⟩) := hO.cell 4 rfl
        have z4 : wr.cell? ⟨w.heap.size, 4, none⟩ = some (.string ⟨#[]⟩) := HZ.out.cell 4 rfl
        have y4 := HZ.out.frozen 4
        have c5 : wr.cell? ⟨w.heap.size + 1, 5, none⟩ = some (.slice vad k vcap) := hO.cell 5 rfl
        have z5 : wr.cell? ⟨w.heap.size, 5, none⟩ = some (.slice none 0 0) := HZ.out.cell 5 rfl
        have y5 := HZ.out.frozen 5
        have hB := Lib.hid hB
        have Hvo := Lib.hid hvo
        have Hvb := Lib.hid hvb
        have F := ((((((HZ.out.set_ 0 (.int .i64 0)).set_ 1 (.bool false)).set_ 2 (.bool x.leaving)).set_ 3 (.int .i64 0)).set_ 4 (.string ⟨#[]⟩)).set_ 5 (.slice vad k vcap))
        have hF := Lib.hid F
        clear HV hO hvo hvb HZ F
        go_wp2
        have F := hF.out
        generalize hW : ((((((wr.setCell ⟨w.heap.size, 0, none⟩ (.int .i64 0)).setCell ⟨w.heap.size, 1, none⟩ (.bool false)).setCell ⟨w.heap.size, 2, none⟩ (.bool x.leaving)).setCell ⟨w.heap.size, 3, none⟩ (.int .i64 0)).setCell ⟨w.heap.size, 4, none⟩ (.string ⟨#[]⟩)).setCell ⟨w.heap.size, 5, none⟩ (.slice vad k vcap)) = W at F ⊢
        have r0 : W.cell? ⟨w.heap.size, 0, none⟩ = some (.int .i64 0) := F.cell 0 rfl
        have r1 : W.cell? ⟨w.heap.size, 1, none⟩ = some (.bool false) := F.cell 1 rfl
        have r2 : W.cell? ⟨w.heap.size, 2, none⟩ = some (.bool x.leaving) := F.cell 2 rfl
        have r3 : W.cell? ⟨w.heap.size, 3, none⟩ = some (.int .i64 0) := F.cell 3 rfl
        have r4 : W.cell? ⟨w.heap.size, 4, none⟩ = some (.string ⟨#[]⟩) := F.cell 4 rfl
        have r5 : W.cell? ⟨w.heap.size, 5, none⟩ = some (.slice vad k vcap) := F.cell 5 rfl
        have hW := Lib.hid hW
        clear hF F c0 z0 y0 c1 z1 y1 c2 z2 y2 c3 z3 y3 c4 z4 y4 c5 z5 y5
        refine bodyPost_ret (by simp [results, Try.results43, go_sem, r0, r1, r2, r3, r4, r5]; try rfl) rfl ?_
        refine ⟨.slice vad k vcap, ?_, ?_, fun b hb => by have := Hvb.out b hb; omega, ?_⟩
        · rw [Hin.out, toldFlt, He.out]; rfl
        · rw [← hW.out]
          have := Hvo.out
          rw [List.take_of_length_le (by rw [HM.out]; exact Nat.le_refl _)] at this
          have hne : (Value.slice vad k vcap).ownBlock ≠ some w.heap.size := fun h => by have := Hvb.out _ h; omega
          repeat (first | (with_reducible exact this) | (with_reducible refine ownsRow_setCell_other ?_ hne _))
        · rw [← hW.out]
          repeat' (first | (with_reducible exact hB.out) | (with_reducible refine Below.setCell ?_ ?_ _) | exact Nat.le_refl _)
  case inl.inr.true =>
    have HC := Lib.hid hoc
    generalize hm' : x.opn.length = m at *
    have HM := Lib.hid hm'
    clear hoc hm'
    go_enter Try.func43, Try.ntmps43
    go_wp2
    go_region
    go_wp2
    go_loopw [71] (fun i wr => ∃ k : Nat, k ≤ m ∧ i = .int .i64 k ∧ Hid (∃ v, Blk wr (w.heap.size + 1) 32 #[.int .i64 0, .bool true, .bool x.leaving, .int .i64 x.flt.kind, .string x.flt.text, v] ∧ wr.ownsRow 0 37 2 v k ((x.opn.take k).flatMap linkCells) ∧ (∀ b, v.ownBlock = some b → w.heap.size + 2 ≤ b)) ∧
        Hid (Blk wr w.heap.size 32 #[.int .i64 0, .bool false, .bool false, .int .i64 0, .string ⟨#[]⟩, .slice none 0 0]) ∧ Below w.heap.size w wr ∧ w.heap.size + 1 < wr.heap.size) (fun i _ => m - (intOf i).toNat)
    case atStart =>
      refine ⟨0, Nat.zero_le _, rfl, ⟨.slice none 0 0, ?_, World.ownsRow_nil _ _ _ _, fun b hb => by cases hb⟩, ?_, by go_grown, by simp⟩
      · have := Blk.new (w.alloc (.cells #[.int .i64 0, .bool false, .bool false, .int .i64 0, .string ⟨#[]⟩, .slice none 0 0] 32)) 32 #[.int .i64 0, .bool true, .bool x.leaving, .int .i64 x.flt.kind, .string x.flt.text, .slice none 0 0]
        rw [World.size_alloc] at this
        exact this
      · exact (Blk.new w 32 #[.int .i64 0, .bool false, .bool false, .int .i64 0, .string ⟨#[]⟩, .slice none 0 0]).alloc _
    case round =>
      obtain ⟨k, hk, rfl, HV, HZ, hB, hszr⟩ := hrel
      obtain ⟨v, hO, hvo, hvb⟩ := HV.out
      by_cases hlt : k < m
      · have hkl : k < x.opn.length := by rw [HM.out]; exact hlt
        have hcell := (hB.cell (p := ⟨ob, k, none⟩) lob).trans (HC.out k hlt)
        rw [List.getElem?_map, List.getElem?_eq_getElem hkl, Option.map_some] at hcell
        have LK : Hid (∀ W, Below w.heap.size w W → Calls Try.prog 69 #[L.sp x.opn[k]] W _) := fun W hW => link_any (HR.out.below hW) (HP.out _ (List.getElem_mem hkl))
        have htake : (x.opn.take (k + 1)).flatMap linkCells = (x.opn.take k).flatMap linkCells ++ linkCells x.opn[k] := by
          rw [List.take_succ_eq_append_getElem hkl, List.flatMap_append]
          simp
        have Htake := Lib.hid htake
        have o5 : wr.cell? ⟨w.heap.size + 1, 5, none⟩ = some v := hO.cell 5 rfl
        have f5 := hO.frozen 5
        have HO := Lib.hid hO
        have Hvo := Lib.hid hvo
        have Hvb := Lib.hid hvb
        have HBB := Lib.hid (hB.trans ((Below.refl w.heap.size wr).drew))
        have hbs := hB.size
        generalize L.sp x.opn[k] = p at *
        generalize x.opn[k] = q at *
        clear HV hO hvo hvb htake
        go_wp2
        go_region_law (first | (refine step_push rfl (.tmp 76) (.tmp 79) 30 rfl 37 2 16 _ Try.infoLink rfl (by omega) (by omega) Try.underlying30 v k _ rfl (hown5.out.alloc _) [.int .i64 (lk q), .int .i64 (q : Int)] ⟨w5.heap.size, 0, none⟩ rfl (cells_new_at w5 #[.int .i64 (lk q), .int .i64 (q : Int)] _) rfl (by simp [Value.oneCell']) (by omega) ?_; intro g2 cap2 w6 hown6 hgrow6 hat6; have hO6 := Lib.hid ((hO5.out.alloc (.cells #[.int .i64 (lk q), .int .i64 (q : Int)] 37)).grown hgrow6 (fun h => by have := Hvb.out _ h; omega)); have o6 : w6.cell? ⟨w.heap.size + 1, 5, none⟩ = some v := hO6.out.cell 5 rfl; have f6 : w6.frozen? ⟨w.heap.size + 1, 5, none⟩ = false := hO6.out.frozen 5; have hown6 := Lib.hid hown6; have hgrow6 := Lib.hid hgrow6; have hat6 := Lib.hid hat6) | (go_simp; go_at_call 69; refine (LK.out _ HBB.out).mono ?_; rintro e w5 ⟨rfl, hb5⟩; have hown5 := Lib.hid (owns_of Hvo.out (fun b hb => hb5.block b (Hvo.out.lt b hb).2)); have hO5 := Lib.hid (HO.out.of (hb5.block _ HO.out.lt)); have o5' : w5.cell? ⟨w.heap.size + 1, 5, none⟩ = some v := hO5.out.cell 5 rfl; have hs5 : w.heap.size + 1 < w5.heap.size := hO5.out.lt; have hb5 := Lib.hid hb5))
        all_goals
          have hg2 : w.heap.size + 2 ≤ g2 := by
            rcases hat6.out with h | h
            · exact Hvb.out _ h
            · simp at h; omega
          have hne2 : (Value.slice (some ⟨g2, 0, none⟩) (k + 1) cap2).ownBlock ≠ some (w.heap.size + 1) := by simp [Value.ownBlock]; omega
          have hZ6 : Hid (Blk w6 w.heap.size 32 #[.int .i64 0, .bool false, .bool false, .int .i64 0, .string ⟨#[]⟩, .slice none 0 0]) :=
            ((HZ.out.of (hb5.out.block _ HZ.out.lt)).alloc _).grown hgrow6.out (fun h => by have := Hvb.out _ h; omega)
          have hB6 : Below w.heap.size w w6 := (HBB.out.trans (hb5.out.mono hbs)).trans (((Below.refl w.heap.size w5).alloc (by omega) _).grown hgrow6.out (by simp; omega) (fun b hb => by have := Hvb.out _ hb; omega))
          go_wp2
          go_roundw
          case rel =>
            refine ⟨k + 1, by omega, by go_num, ⟨.slice (some ⟨g2, 0, none⟩) (k + 1) cap2, hO6.out.set_ 5 _, ?_, fun b hb => ?_⟩, ?_, hB6.setCell (p := ⟨w.heap.size + 1, 5, none⟩) (show w.heap.size ≤ w.heap.size + 1 by omega) _, ?_⟩
            · rw [Htake.out]; exact ownsRow_setCell_other hown6.out hne2 _
            · have hb : g2 = b := by simpa [Value.ownBlock] using hb
              omega
            · exact hZ6.out.far (fun (e : w.heap.size = w.heap.size + 1) => by omega) _
            · have := hO6.out.lt; simpa [World.setCell] using this
          case measure => simp [intOf]; omega
      · obtain rfl : k = m := by omega
        obtain ⟨vad, vcap, rfl⟩ := owns_shape hvo
        have c0 : wr.cell? ⟨w.heap.size + 1, 0, none⟩ = some (.int .i64 0) := hO.cell 0 rfl
        have z0 : wr.cell? ⟨w.heap.size, 0, none⟩ = some (.int .i64 0) := HZ.out.cell 0 rfl
        have y0 := HZ.out.frozen 0
        have c1 : wr.cell? ⟨w.heap.size + 1, 1, none⟩ = some (.bool true) := hO.cell 1 rfl
        have z1 : wr.cell? ⟨w.heap.size, 1, none⟩ = some (.bool false) := HZ.out.cell 1 rfl
        have y1 := HZ.out.frozen 1
        have c2 : wr.cell? ⟨w.heap.size + 1, 2, none⟩ = some (.bool x.leaving) := hO.cell 2 rfl
        have z2 : wr.cell? ⟨w.heap.size, 2, none⟩ = some (.bool false) := HZ.out.cell 2 rfl
        have y2 := HZ.out.frozen 2
        have c3 : wr.cell? ⟨w.heap.size + 1, 3, none⟩ = some (.int .i64 x.flt.kind) := hO.cell 3 rfl
        have z3 : wr.cell? ⟨w.heap.size, 3, none⟩ = some (.int .i64 0) := HZ.out.cell 3 rfl
        have y3 := HZ.out.frozen 3
        have c4 : wr.cell? ⟨w.heap.size + 1, 4, none⟩ = some (.string x.flt.text) := hO.cell 4 rfl
        have z4 : wr.cell? ⟨w.heap.size, 4, none⟩ = some (.string ⟨#[]⟩) := HZ.out.cell 4 rfl
        have y4 := HZ.out.frozen 4
        have c5 : wr.cell? ⟨w.heap.size + 1, 5, none⟩ = some (.slice vad k vcap) := hO.cell 5 rfl
        have z5 : wr.cell? ⟨w.heap.size, 5, none⟩ = some (.slice none 0 0) := HZ.out.cell 5 rfl
        have y5 := HZ.out.frozen 5
        have hB := Lib.hid hB
        have Hvo := Lib.hid hvo
        have Hvb := Lib.hid hvb
        have F := ((((((HZ.out.set_ 0 (.int .i64 0)).set_ 1 (.bool true)).set_ 2 (.bool x.leaving)).set_ 3 (.int .i64 x.flt.kind)).set_ 4 (.string x.flt.text)).set_ 5 (.slice vad k vcap))
        have hF := Lib.hid F
        clear HV hO hvo hvb HZ F
        go_wp2
        have F := hF.out
        generalize hW : ((((((wr.setCell ⟨w.heap.size, 0, none⟩ (.int .i64 0)).setCell ⟨w.heap.size, 1, none⟩ (.bool true)).setCell ⟨w.heap.size, 2, none⟩ (.bool x.leaving)).setCell ⟨w.heap.size, 3, none⟩ (.int .i64 x.flt.kind)).setCell ⟨w.heap.size, 4, none⟩ (.string x.flt.text)).setCell ⟨w.heap.size, 5, none⟩ (.slice vad k vcap)) = W at F ⊢
        have r0 : W.cell? ⟨w.heap.size, 0, none⟩ = some (.int .i64 0) := F.cell 0 rfl
        have r1 : W.cell? ⟨w.heap.size, 1, none⟩ = some (.bool true) := F.cell 1 rfl
        have r2 : W.cell? ⟨w.heap.size, 2, none⟩ = some (.bool x.leaving) := F.cell 2 rfl
        have r3 : W.cell? ⟨w.heap.size, 3, none⟩ = some (.int .i64 x.flt.kind) := F.cell 3 rfl
        have r4 : W.cell? ⟨w.heap.size, 4, none⟩ = some (.string x.flt.text) := F.cell 4 rfl
        have r5 : W.cell? ⟨w.heap.size, 5, none⟩ = some (.slice vad k vcap) := F.cell 5 rfl
        have hW := Lib.hid hW
        clear hF F c0 z0 y0 c1 z1 y1 c2 z2 y2 c3 z3 y3 c4 z4 y4 c5 z5 y5
        refine bodyPost_ret (by simp [results, Try.results43, go_sem, r0, r1, r2, r3, r4, r5]; try rfl) rfl ?_
        refine ⟨.slice vad k vcap, ?_, ?_, fun b hb => by have := Hvb.out b hb; omega, ?_⟩
        · rw [Hin.out, toldFlt, He.out]; rfl
        · rw [← hW.out]
          have := Hvo.out
          rw [List.take_of_length_le (by rw [HM.out]; exact Nat.le_refl _)] at this
          have hne : (Value.slice vad k vcap).ownBlock ≠ some w.heap.size := fun h => by have := Hvb.out _ h; omega
          repeat (first | (with_reducible exact this) | (with_reducible refine ownsRow_setCell_other ?_ hne _))
        · rw [← hW.out]
          repeat' (first | (with_reducible exact hB.out) | (with_reducible refine Below.setCell ?_ ?_ _) | exact Nat.le_refl _)
  case inr.inr.false =>
    have HC := Lib.hid hoc
    generalize hm' : x.opn.length = m at *
    have HM := Lib.hid hm'
    clear hoc hm'
    go_enter Try.func43, Try.ntmps43
    go_wp2
    go_region
    go_wp2
    go_loopw [71] (fun i wr => ∃ k : Nat, k ≤ m ∧ i = .int .i64 k ∧ Hid (∃ v, Blk wr (w.heap.size + 1) 32 #[.int .i64 ((j : Int) + 1), .bool false, .bool x.leaving, .int .i64 0, .string ⟨#[]⟩, v] ∧ wr.ownsRow 0 37 2 v k ((x.opn.take k).flatMap linkCells) ∧ (∀ b, v.ownBlock = some b → w.heap.size + 2 ≤ b)) ∧
        Hid (Blk wr w.heap.size 32 #[.int .i64 0, .bool false, .bool false, .int .i64 0, .string ⟨#[]⟩, .slice none 0 0]) ∧ Below w.heap.size w wr ∧ w.heap.size + 1 < wr.heap.size) (fun i _ => m - (intOf i).toNat)
    case atStart =>
      refine ⟨0, Nat.zero_le _, rfl, ⟨.slice none 0 0, ?_, World.ownsRow_nil _ _ _ _, fun b hb => by cases hb⟩, ?_, by go_grown, by simp⟩
      · have := Blk.new (w.alloc (.cells #[.int .i64 0, .bool false, .bool false, .int .i64 0, .string ⟨#[]⟩, .slice none 0 0] 32)) 32 #[.int .i64 ((j : Int) + 1), .bool false, .bool x.leaving, .int .i64 0, .string ⟨#[]⟩, .slice none 0 0]
        rw [World.size_alloc] at this
        exact this
      · exact (Blk.new w 32 #[.int .i64 0, .bool false, .bool false, .int .i64 0, .string ⟨#[]⟩, .slice none 0 0]).alloc _
    case round =>
      obtain ⟨k, hk, rfl, HV, HZ, hB, hszr⟩ := hrel
      obtain ⟨v, hO, hvo, hvb⟩ := HV.out
      by_cases hlt : k < m
      · have hkl : k < x.opn.length := by rw [HM.out]; exact hlt
        have hcell := (hB.cell (p := ⟨ob, k, none⟩) lob).trans (HC.out k hlt)
        rw [List.getElem?_map, List.getElem?_eq_getElem hkl, Option.map_some] at hcell
        have LK : Hid (∀ W, Below w.heap.size w W → Calls Try.prog 69 #[L.sp x.opn[k]] W _) := fun W hW => link_any (HR.out.below hW) (HP.out _ (List.getElem_mem hkl))
        have htake : (x.opn.take (k + 1)).flatMap linkCells = (x.opn.take k).flatMap linkCells ++ linkCells x.opn[k] := by
          rw [List.take_succ_eq_append_getElem hkl, List.flatMap_append]
          simp
        have Htake := Lib.hid htake
        have o5 : wr.cell? ⟨w.heap.size + 1, 5, none⟩ = some v := hO.cell 5 rfl
        have f5 := hO.frozen 5
        have HO := Lib.hid hO
        have Hvo := Lib.hid hvo
        have Hvb := Lib.hid hvb
        have HBB := Lib.hid (hB.trans ((Below.refl w.heap.size wr).drew))
        have hbs := hB.size
        generalize L.sp x.opn[k] = p at *
        generalize x.opn[k] = q at *
        clear HV hO hvo hvb htake
        go_wp2
        go_region_law (first | (refine step_push rfl (.tmp 76) (.tmp 79) 30 rfl 37 2 16 _ Try.infoLink rfl (by omega) (by omega) Try.underlying30 v k _ rfl (hown5.out.alloc _) [.int .i64 (lk q), .int .i64 (q : Int)] ⟨w5.heap.size, 0, none⟩ rfl (cells_new_at w5 #[.int .i64 (lk q), .int .i64 (q : Int)] _) rfl (by simp [Value.oneCell']) (by omega) ?_; intro g2 cap2 w6 hown6 hgrow6 hat6; have hO6 := Lib.hid ((hO5.out.alloc (.cells #[.int .i64 (lk q), .int .i64 (q : Int)] 37)).grown hgrow6 (fun h => by have := Hvb.out _ h; omega)); have o6 : w6.cell? ⟨w.heap.size + 1, 5, none⟩ = some v := hO6.out.cell 5 rfl; have f6 : w6.frozen? ⟨w.heap.size + 1, 5, none⟩ = false := hO6.out.frozen 5; have hown6 := Lib.hid hown6; have hgrow6 := Lib.hid hgrow6; have hat6 := Lib.hid hat6) | (go_simp; go_at_call 69; refine (LK.out _ HBB.out).mono ?_; rintro e w5 ⟨rfl, hb5⟩; have hown5 := Lib.hid (owns_of Hvo.out (fun b hb => hb5.block b (Hvo.out.lt b hb).2)); have hO5 := Lib.hid (HO.out.of (hb5.block _ HO.out.lt)); have o5' : w5.cell? ⟨w.heap.size + 1, 5, none⟩ = some v := hO5.out.cell 5 rfl; have hs5 : w.heap.size + 1 < w5.heap.size := hO5.out.lt; have hb5 := Lib.hid hb5))
        all_goals
          have hg2 : w.heap.size + 2 ≤ g2 := by
            rcases hat6.out with h | h
            · exact Hvb.out _ h
            · simp at h; omega
          have hne2 : (Value.slice (some ⟨g2, 0, none⟩) (k + 1) cap2).ownBlock ≠ some (w.heap.size + 1) := by simp [Value.ownBlock]; omega
          have hZ6 : Hid (Blk w6 w.heap.size 32 #[.int .i64 0, .bool false, .bool false, .int .i64 0, .string ⟨#[]⟩, .slice none 0 0]) :=
            ((HZ.out.of (hb5.out.block _ HZ.out.lt)).alloc _).grown hgrow6.out (fun h => by have := Hvb.out _ h; omega)
          have hB6 : Below w.heap.size w w6 := (HBB.out.trans (hb5.out.mono hbs)).trans (((Below.refl w.heap.size w5).alloc (by omega) _).grown hgrow6.out (by simp; omega) (fun b hb => by have := Hvb.out _ hb; omega))
          go_wp2
          go_roundw
          case rel =>
            refine ⟨k + 1, by omega, by go_num, ⟨.slice (some ⟨g2, 0, none⟩) (k + 1) cap2, hO6.out.set_ 5 _, ?_, fun b hb => ?_⟩, ?_, hB6.setCell (p := ⟨w.heap.size + 1, 5, none⟩) (show w.heap.size ≤ w.heap.size + 1 by omega) _, ?_⟩
            · rw [Htake.out]; exact ownsRow_setCell_other hown6.out hne2 _
            · have hb : g2 = b := by simpa [Value.ownBlock] using hb
              omega
            · exact hZ6.out.far (fun (e : w.heap.size = w.heap.size + 1) => by omega) _
            · have := hO6.out.lt; simpa [World.setCell] using this
          case measure => simp [intOf]; omega
      · obtain rfl : k = m := by omega
        obtain ⟨vad, vcap, rfl⟩ := owns_shape hvo
        have c0 : wr.cell? ⟨w.heap.size + 1, 0, none⟩ = some (.int .i64 ((j : Int) + 1)) := hO.cell 0 rfl
        have z0 : wr.cell? ⟨w.heap.size, 0, none⟩ = some (.int .i64 0) := HZ.out.cell 0 rfl
        have y0 := HZ.out.frozen 0
        have c1 : wr.cell? ⟨w.heap.size + 1, 1, none⟩ = some (.bool false) := hO.cell 1 rfl
        have z1 : wr.cell? ⟨w.heap.size, 1, none⟩ = some (.bool false) := HZ.out.cell 1 rfl
        have y1 := HZ.out.frozen 1
        have c2 : wr.cell? ⟨w.heap.size + 1, 2, none⟩ = some (.bool x.leaving) := hO.cell 2 rfl
        have z2 : wr.cell? ⟨w.heap.size, 2, none⟩ = some (.bool false) := HZ.out.cell 2 rfl
        have y2 := HZ.out.frozen 2
        have c3 : wr.cell? ⟨w.heap.size + 1, 3, none⟩ = some (.int .i64 0) := hO.cell 3 rfl
        have z3 : wr.cell? ⟨w.heap.size, 3, none⟩ = some (.int .i64 0) := HZ.out.cell 3 rfl
        have y3 := HZ.out.frozen 3
        have c4 : wr.cell? ⟨w.heap.size + 1, 4, none⟩ = some (.string ⟨#[]⟩) := hO.cell 4 rfl
        have z4 : wr.cell? ⟨w.heap.size, 4, none⟩ = some (.string ⟨#[]⟩) := HZ.out.cell 4 rfl
        have y4 := HZ.out.frozen 4
        have c5 : wr.cell? ⟨w.heap.size + 1, 5, none⟩ = some (.slice vad k vcap) := hO.cell 5 rfl
        have z5 : wr.cell? ⟨w.heap.size, 5, none⟩ = some (.slice none 0 0) := HZ.out.cell 5 rfl
        have y5 := HZ.out.frozen 5
        have hB := Lib.hid hB
        have Hvo := Lib.hid hvo
        have Hvb := Lib.hid hvb
        have F := ((((((HZ.out.set_ 0 (.int .i64 ((j : Int) + 1))).set_ 1 (.bool false)).set_ 2 (.bool x.leaving)).set_ 3 (.int .i64 0)).set_ 4 (.string ⟨#[]⟩)).set_ 5 (.slice vad k vcap))
        have hF := Lib.hid F
        clear HV hO hvo hvb HZ F
        go_wp2
        have F := hF.out
        generalize hW : ((((((wr.setCell ⟨w.heap.size, 0, none⟩ (.int .i64 ((j : Int) + 1))).setCell ⟨w.heap.size, 1, none⟩ (.bool false)).setCell ⟨w.heap.size, 2, none⟩ (.bool x.leaving)).setCell ⟨w.heap.size, 3, none⟩ (.int .i64 0)).setCell ⟨w.heap.size, 4, none⟩ (.string ⟨#[]⟩)).setCell ⟨w.heap.size, 5, none⟩ (.slice vad k vcap)) = W at F ⊢
        have r0 : W.cell? ⟨w.heap.size, 0, none⟩ = some (.int .i64 ((j : Int) + 1)) := F.cell 0 rfl
        have r1 : W.cell? ⟨w.heap.size, 1, none⟩ = some (.bool false) := F.cell 1 rfl
        have r2 : W.cell? ⟨w.heap.size, 2, none⟩ = some (.bool x.leaving) := F.cell 2 rfl
        have r3 : W.cell? ⟨w.heap.size, 3, none⟩ = some (.int .i64 0) := F.cell 3 rfl
        have r4 : W.cell? ⟨w.heap.size, 4, none⟩ = some (.string ⟨#[]⟩) := F.cell 4 rfl
        have r5 : W.cell? ⟨w.heap.size, 5, none⟩ = some (.slice vad k vcap) := F.cell 5 rfl
        have hW := Lib.hid hW
        clear hF F c0 z0 y0 c1 z1 y1 c2 z2 y2 c3 z3 y3 c4 z4 y4 c5 z5 y5
        refine bodyPost_ret (by simp [results, Try.results43, go_sem, r0, r1, r2, r3, r4, r5]; try rfl) rfl ?_
        refine ⟨.slice vad k vcap, ?_, ?_, fun b hb => by have := Hvb.out b hb; omega, ?_⟩
        · rw [Hin.out, toldFlt, He.out]; rfl
        · rw [← hW.out]
          have := Hvo.out
          rw [List.take_of_length_le (by rw [HM.out]; exact Nat.le_refl _)] at this
          have hne : (Value.slice vad k vcap).ownBlock ≠ some w.heap.size := fun h => by have := Hvb.out _ h; omega
          repeat (first | (with_reducible exact this) | (with_reducible refine ownsRow_setCell_other ?_ hne _))
        · rw [← hW.out]
          repeat' (first | (with_reducible exact hB.out) | (with_reducible refine Below.setCell ?_ ?_ _) | exact Nat.le_refl _)
  case inr.inr.true =>
    have HC := Lib.hid hoc
    generalize hm' : x.opn.length = m at *
    have HM := Lib.hid hm'
    clear hoc hm'
    go_enter Try.func43, Try.ntmps43
    go_wp2
    go_region
    go_wp2
    go_loopw [71] (fun i wr => ∃ k : Nat, k ≤ m ∧ i = .int .i64 k ∧ Hid (∃ v, Blk wr (w.heap.size + 1) 32 #[.int .i64 ((j : Int) + 1), .bool true, .bool x.leaving, .int .i64 x.flt.kind, .string x.flt.text, v] ∧ wr.ownsRow 0 37 2 v k ((x.opn.take k).flatMap linkCells) ∧ (∀ b, v.ownBlock = some b → w.heap.size + 2 ≤ b)) ∧
        Hid (Blk wr w.heap.size 32 #[.int .i64 0, .bool false, .bool false, .int .i64 0, .string ⟨#[]⟩, .slice none 0 0]) ∧ Below w.heap.size w wr ∧ w.heap.size + 1 < wr.heap.size) (fun i _ => m - (intOf i).toNat)
    case atStart =>
      refine ⟨0, Nat.zero_le _, rfl, ⟨.slice none 0 0, ?_, World.ownsRow_nil _ _ _ _, fun b hb => by cases hb⟩, ?_, by go_grown, by simp⟩
      · have := Blk.new (w.alloc (.cells #[.int .i64 0, .bool false, .bool false, .int .i64 0, .string ⟨#[]⟩, .slice none 0 0] 32)) 32 #[.int .i64 ((j : Int) + 1), .bool true, .bool x.leaving, .int .i64 x.flt.kind, .string x.flt.text, .slice none 0 0]
        rw [World.size_alloc] at this
        exact this
      · exact (Blk.new w 32 #[.int .i64 0, .bool false, .bool false, .int .i64 0, .string ⟨#[]⟩, .slice none 0 0]).alloc _
    case round =>
      obtain ⟨k, hk, rfl, HV, HZ, hB, hszr⟩ := hrel
      obtain ⟨v, hO, hvo, hvb⟩ := HV.out
      by_cases hlt : k < m
      · have hkl : k < x.opn.length := by rw [HM.out]; exact hlt
        have hcell := (hB.cell (p := ⟨ob, k, none⟩) lob).trans (HC.out k hlt)
        rw [List.getElem?_map, List.getElem?_eq_getElem hkl, Option.map_some] at hcell
        have LK : Hid (∀ W, Below w.heap.size w W → Calls Try.prog 69 #[L.sp x.opn[k]] W _) := fun W hW => link_any (HR.out.below hW) (HP.out _ (List.getElem_mem hkl))
        have htake : (x.opn.take (k + 1)).flatMap linkCells = (x.opn.take k).flatMap linkCells ++ linkCells x.opn[k] := by
          rw [List.take_succ_eq_append_getElem hkl, List.flatMap_append]
          simp
        have Htake := Lib.hid htake
        have o5 : wr.cell? ⟨w.heap.size + 1, 5, none⟩ = some v := hO.cell 5 rfl
        have f5 := hO.frozen 5
        have HO := Lib.hid hO
        have Hvo := Lib.hid hvo
        have Hvb := Lib.hid hvb
        have HBB := Lib.hid (hB.trans ((Below.refl w.heap.size wr).drew))
        have hbs := hB.size
        generalize L.sp x.opn[k] = p at *
        generalize x.opn[k] = q at *
        clear HV hO hvo hvb htake
        go_wp2
        go_region_law (first | (refine step_push rfl (.tmp 76) (.tmp 79) 30 rfl 37 2 16 _ Try.infoLink rfl (by omega) (by omega) Try.underlying30 v k _ rfl (hown5.out.alloc _) [.int .i64 (lk q), .int .i64 (q : Int)] ⟨w5.heap.size, 0, none⟩ rfl (cells_new_at w5 #[.int .i64 (lk q), .int .i64 (q : Int)] _) rfl (by simp [Value.oneCell']) (by omega) ?_; intro g2 cap2 w6 hown6 hgrow6 hat6; have hO6 := Lib.hid ((hO5.out.alloc (.cells #[.int .i64 (lk q), .int .i64 (q : Int)] 37)).grown hgrow6 (fun h => by have := Hvb.out _ h; omega)); have o6 : w6.cell? ⟨w.heap.size + 1, 5, none⟩ = some v := hO6.out.cell 5 rfl; have f6 : w6.frozen? ⟨w.heap.size + 1, 5, none⟩ = false := hO6.out.frozen 5; have hown6 := Lib.hid hown6; have hgrow6 := Lib.hid hgrow6; have hat6 := Lib.hid hat6) | (go_simp; go_at_call 69; refine (LK.out _ HBB.out).mono ?_; rintro e w5 ⟨rfl, hb5⟩; have hown5 := Lib.hid (owns_of Hvo.out (fun b hb => hb5.block b (Hvo.out.lt b hb).2)); have hO5 := Lib.hid (HO.out.of (hb5.block _ HO.out.lt)); have o5' : w5.cell? ⟨w.heap.size + 1, 5, none⟩ = some v := hO5.out.cell 5 rfl; have hs5 : w.heap.size + 1 < w5.heap.size := hO5.out.lt; have hb5 := Lib.hid hb5))
        all_goals
          have hg2 : w.heap.size + 2 ≤ g2 := by
            rcases hat6.out with h | h
            · exact Hvb.out _ h
            · simp at h; omega
          have hne2 : (Value.slice (some ⟨g2, 0, none⟩) (k + 1) cap2).ownBlock ≠ some (w.heap.size + 1) := by simp [Value.ownBlock]; omega
          have hZ6 : Hid (Blk w6 w.heap.size 32 #[.int .i64 0, .bool false, .bool false, .int .i64 0, .string ⟨#[]⟩, .slice none 0 0]) :=
            ((HZ.out.of (hb5.out.block _ HZ.out.lt)).alloc _).grown hgrow6.out (fun h => by have := Hvb.out _ h; omega)
          have hB6 : Below w.heap.size w w6 := (HBB.out.trans (hb5.out.mono hbs)).trans (((Below.refl w.heap.size w5).alloc (by omega) _).grown hgrow6.out (by simp; omega) (fun b hb => by have := Hvb.out _ hb; omega))
          go_wp2
          go_roundw
          case rel =>
            refine ⟨k + 1, by omega, by go_num, ⟨.slice (some ⟨g2, 0, none⟩) (k + 1) cap2, hO6.out.set_ 5 _, ?_, fun b hb => ?_⟩, ?_, hB6.setCell (p := ⟨w.heap.size + 1, 5, none⟩) (show w.heap.size ≤ w.heap.size + 1 by omega) _, ?_⟩
            · rw [Htake.out]; exact ownsRow_setCell_other hown6.out hne2 _
            · have hb : g2 = b := by simpa [Value.ownBlock] using hb
              omega
            · exact hZ6.out.far (fun (e : w.heap.size = w.heap.size + 1) => by omega) _
            · have := hO6.out.lt; simpa [World.setCell] using this
          case measure => simp [intOf]; omega
      · obtain rfl : k = m := by omega
        obtain ⟨vad, vcap, rfl⟩ := owns_shape hvo
        have c0 : wr.cell? ⟨w.heap.size + 1, 0, none⟩ = some (.int .i64 ((j : Int) + 1)) := hO.cell 0 rfl
        have z0 : wr.cell? ⟨w.heap.size, 0, none⟩ = some (.int .i64 0) := HZ.out.cell 0 rfl
        have y0 := HZ.out.frozen 0
        have c1 : wr.cell? ⟨w.heap.size + 1, 1, none⟩ = some (.bool true) := hO.cell 1 rfl
        have z1 : wr.cell? ⟨w.heap.size, 1, none⟩ = some (.bool false) := HZ.out.cell 1 rfl
        have y1 := HZ.out.frozen 1
        have c2 : wr.cell? ⟨w.heap.size + 1, 2, none⟩ = some (.bool x.leaving) := hO.cell 2 rfl
        have z2 : wr.cell? ⟨w.heap.size, 2, none⟩ = some (.bool false) := HZ.out.cell 2 rfl
        have y2 := HZ.out.frozen 2
        have c3 : wr.cell? ⟨w.heap.size + 1, 3, none⟩ = some (.int .i64 x.flt.kind) := hO.cell 3 rfl
        have z3 : wr.cell? ⟨w.heap.size, 3, none⟩ = some (.int .i64 0) := HZ.out.cell 3 rfl
        have y3 := HZ.out.frozen 3
        have c4 : wr.cell? ⟨w.heap.size + 1, 4, none⟩ = some (.string x.flt.text) := hO.cell 4 rfl
        have z4 : wr.cell? ⟨w.heap.size, 4, none⟩ = some (.string ⟨#[]⟩) := HZ.out.cell 4 rfl
        have y4 := HZ.out.frozen 4
        have c5 : wr.cell? ⟨w.heap.size + 1, 5, none⟩ = some (.slice vad k vcap) := hO.cell 5 rfl
        have z5 : wr.cell? ⟨w.heap.size, 5, none⟩ = some (.slice none 0 0) := HZ.out.cell 5 rfl
        have y5 := HZ.out.frozen 5
        have hB := Lib.hid hB
        have Hvo := Lib.hid hvo
        have Hvb := Lib.hid hvb
        have F := ((((((HZ.out.set_ 0 (.int .i64 ((j : Int) + 1))).set_ 1 (.bool true)).set_ 2 (.bool x.leaving)).set_ 3 (.int .i64 x.flt.kind)).set_ 4 (.string x.flt.text)).set_ 5 (.slice vad k vcap))
        have hF := Lib.hid F
        clear HV hO hvo hvb HZ F
        go_wp2
        have F := hF.out
        generalize hW : ((((((wr.setCell ⟨w.heap.size, 0, none⟩ (.int .i64 ((j : Int) + 1))).setCell ⟨w.heap.size, 1, none⟩ (.bool true)).setCell ⟨w.heap.size, 2, none⟩ (.bool x.leaving)).setCell ⟨w.heap.size, 3, none⟩ (.int .i64 x.flt.kind)).setCell ⟨w.heap.size, 4, none⟩ (.string x.flt.text)).setCell ⟨w.heap.size, 5, none⟩ (.slice vad k vcap)) = W at F ⊢
        have r0 : W.cell? ⟨w.heap.size, 0, none⟩ = some (.int .i64 ((j : Int) + 1)) := F.cell 0 rfl
        have r1 : W.cell? ⟨w.heap.size, 1, none⟩ = some (.bool true) := F.cell 1 rfl
        have r2 : W.cell? ⟨w.heap.size, 2, none⟩ = some (.bool x.leaving) := F.cell 2 rfl
        have r3 : W.cell? ⟨w.heap.size, 3, none⟩ = some (.int .i64 x.flt.kind) := F.cell 3 rfl
        have r4 : W.cell? ⟨w.heap.size, 4, none⟩ = some (.string x.flt.text) := F.cell 4 rfl
        have r5 : W.cell? ⟨w.heap.size, 5, none⟩ = some (.slice vad k vcap) := F.cell 5 rfl
        have hW := Lib.hid hW
        clear hF F c0 z0 y0 c1 z1 y1 c2 z2 y2 c3 z3 y3 c4 z4 y4 c5 z5 y5
        refine bodyPost_ret (by simp [results, Try.results43, go_sem, r0, r1, r2, r3, r4, r5]; try rfl) rfl ?_
        refine ⟨.slice vad k vcap, ?_, ?_, fun b hb => by have := Hvb.out b hb; omega, ?_⟩
        · rw [Hin.out, toldFlt, He.out]; rfl
        · rw [← hW.out]
          have := Hvo.out
          rw [List.take_of_length_le (by rw [HM.out]; exact Nat.le_refl _)] at this
          have hne : (Value.slice vad k vcap).ownBlock ≠ some w.heap.size := fun h => by have := Hvb.out _ h; omega
          repeat (first | (with_reducible exact this) | (with_reducible refine ownsRow_setCell_other ?_ hne _))
        · rw [← hW.out]
          repeat' (first | (with_reducible exact hB.out) | (with_reducible refine Below.setCell ?_ ?_ _) | exact Nat.le_refl _)

end
end Go.Proofs.Ytoonkidlbnndcaa
