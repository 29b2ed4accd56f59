/-
  A scope more: (*Tree).Open, its contracts.
-/
import Derived.Test.YtoonkidlbnndcaaOpen
namespace Go.Proofs.Ytoonkidlbnndcaa
set_option linter.unusedVariables false
set_option linter.unusedSimpArgs false
open Go.RowKit

section
variable {κ : Kap} {L : Lay} {T : TreeA} {w : World}

theorem open_nil (n : Int) (b : Bool) (w : World) : Calls Try.prog 60 #[.pointer none, .int .i64 n, .bool b] w fun e w' => e = .returned (.tuple #[.int .i64 0, .int .i64 2]) ∧ w = w' := by
  go_enter Try.func60, Try.ntmps60
  go_wp2_with (go_at_call 77; refine (acts_nil _ _).mono ?_; rintro e w' ⟨rfl, rfl⟩)
  go_ret2
  exact ⟨rfl, rfl⟩
theorem open_none (R : Rep κ L T w) {n : Int} (b : Bool) (h : T.run? n = none) :
    Calls Try.prog 60 #[.pointer (some ⟨L.t, 0, none⟩), .int .i64 n, .bool b] w fun e w' => e = .returned (.tuple #[.int .i64 0, .int .i64 6]) ∧ w = w' := by
  have C := Lib.hid (acts_none R h)
  clear R h
  go_enter Try.func60, Try.ntmps60
  go_wp2_with (go_at_call 77; refine C.out.mono ?_; rintro e w' ⟨rfl, rfl⟩)
  go_ret2
  exact ⟨rfl, rfl⟩
theorem open_leaving (R : Rep κ L T w) {n : Int} {i : Nat} {x : TaskA} (b : Bool) (h : T.run? n = some i) (hx : T.tasks[i]? = some x) (hl : x.leaving = true) :
    Calls Try.prog 60 #[.pointer (some ⟨L.t, 0, none⟩), .int .i64 n, .bool b] w fun e w' => e = .returned (.tuple #[.int .i64 0, .int .i64 22]) ∧ w = w' := by
  have C := Lib.hid (acts_leaving R h hx hl)
  clear R h hx hl
  go_enter Try.func60, Try.ntmps60
  go_wp2_with (go_at_call 77; refine C.out.mono ?_; rintro e w' ⟨rfl, rfl⟩)
  go_ret2
  exact ⟨rfl, rfl⟩
set_option maxRecDepth 100000 in
theorem open_full (R : Rep κ L T w) {n : Int} {i : Nat} {x : TaskA} (b : Bool) (h : T.run? n = some i) (hx : T.tasks[i]? = some x) (hl : x.leaving = false) (hf : 200 ≤ T.scopes.length) :
    Calls Try.prog 60 #[.pointer (some ⟨L.t, 0, none⟩), .int .i64 n, .bool b] w fun e w' => e = .returned (.tuple #[.int .i64 0, .int .i64 5]) ∧ w = w' := by
  have C := Lib.hid (acts_some R h hx hl)
  obtain ⟨c0, c1⟩ := R.treecells
  obtain ⟨ad, cap, hv, hcap, hm⟩ := owns_len R.ss
  rw [hv] at c1
  clear R h hx hl hv
  go_enter Try.func60, Try.ntmps60
  go_wp2_with (go_at_call 77; refine C.out.mono ?_; rintro e w' ⟨rfl, rfl⟩)
  go_ret2
  exact ⟨rfl, rfl⟩

/-- The tree in which task i has opened a scope. -/
def TreeA.opened (T : TreeA) (i : Nat) (x : TaskA) (sup : Bool) : TreeA :=
  { tasks := T.tasks.set i { x with opn := x.opn ++ [T.scopes.length + 1] }, scopes := T.scopes ++ [.new (i + 1) sup] }

/-- What holds behind the first append, and what will hold behind the second. -/
theorem open_mid (R : Rep κ L T w) (sup : Bool) (hin : ∀ (i : Nat) (s : TaskA), T.tasks[i]? = some s → s.inn ≤ T.scopes.length) (hopn : ∀ (i : Nat) (s : TaskA), T.tasks[i]? = some s → ∀ n ∈ s.opn, n ≤ T.scopes.length)
    {i : Nat} {x : TaskA} (hx : T.tasks[i]? = some x)
    {w1 : World} {g cap : Nat} (hg : (w.alloc (.cells (newScope L T.scopes.length (i + 1) sup) 113)).grownBy w1 L.ss.ownBlock)
    (hv : w1.ownsRow 0 109 1 (.slice (some ⟨g, 0, none⟩) (T.scopes.length + 1) cap) (T.scopes.length + 1) (((List.range T.scopes.length).map fun i => .pointer (some ⟨L.sb i, 0, none⟩)) ++ [.pointer (some ⟨w.heap.size, 0, none⟩)]))
    (hat : L.ss.ownBlock = some g ∨ w.heap.size + 1 ≤ g) :
    w1.cell? ⟨L.t, 1, none⟩ = some L.ss ∧ w1.frozen? ⟨L.t, 1, none⟩ = false ∧
    w1.cell? ⟨L.tb i, 2, none⟩ = some (L.ov i) ∧
    Hid ((w1.setCell ⟨L.t, 1, none⟩ (.slice (some ⟨g, 0, none⟩) (T.scopes.length + 1) cap)).ownsRow 0 109 1 (L.ov i) x.opn.length (x.opn.map L.sp)) ∧
    Hid (∀ {w2 : World} {g2 cap2 : Nat}, (w1.setCell ⟨L.t, 1, none⟩ (.slice (some ⟨g, 0, none⟩) (T.scopes.length + 1) cap)).grownBy w2 (L.ov i).ownBlock →
      w2.cell? ⟨L.tb i, 2, none⟩ = some (L.ov i) ∧ w2.frozen? ⟨L.tb i, 2, none⟩ = false ∧
      w2.cell? ⟨w.heap.size, 0, none⟩ = some (.int .i64 ((T.scopes.length : Int) + 1)) ∧
      Hid (w2.ownsRow 0 109 1 (.slice (some ⟨g2, 0, none⟩) (x.opn.length + 1) cap2) (x.opn.length + 1) (x.opn.map L.sp ++ [.pointer (some ⟨w.heap.size, 0, none⟩)]) →
        ((L.ov i).ownBlock = some g2 ∨ w1.heap.size ≤ g2) →
        ∃ κ' L', L'.t = L.t ∧ Rep κ' L' (T.opened i x sup) (w2.setCell ⟨L.tb i, 2, none⟩ (.slice (some ⟨g2, 0, none⟩) (x.opn.length + 1) cap2)) ∧
          Ext κ κ' w (w2.setCell ⟨L.tb i, 2, none⟩ (.slice (some ⟨g2, 0, none⟩) (x.opn.length + 1) cap2)))) := by
  obtain ⟨k0, k1, k2, hB, hN⟩ := sadd_cells R (i + 1) sup hg
  obtain ⟨κ1, R1, E1, R1b⟩ := sadd_mem R (i + 1) sup hin hopn hg hv hat
  have hS : Blk w1 (L.tb i) 111 (L.tcells i x) := ((R.task i x hx).alloc _).grown hg (fun h => by have := R.kss _ h; rw [R.ktask i x hx] at this; cases this)
  have hsz : (w1.setCell ⟨L.t, 1, none⟩ (.slice (some ⟨g, 0, none⟩) (T.scopes.length + 1) cap)).heap.size = w1.heap.size := by simp [World.setCell]
  have hlt : w.heap.size < w1.heap.size := hN.lt
  have hsp : ∀ n, n ≤ T.scopes.length → Lay.sp (L.moreS T.scopes.length w.heap.size (.slice (some ⟨g, 0, none⟩) (T.scopes.length + 1) cap)) n = L.sp n := fun n hn => by
    unfold Lay.sp Lay.moreS
    by_cases e : n = 0
    · simp [e]
    · simp only [e, if_false]
      rw [upd_other _ _ (by omega)]
  have hopns : x.opn.map (Lay.sp (L.moreS T.scopes.length w.heap.size (.slice (some ⟨g, 0, none⟩) (T.scopes.length + 1) cap))) = x.opn.map L.sp := List.map_congr_left fun n hn => hsp n (hopn i x hx n hn)
  have hnew : Lay.sp (L.moreS T.scopes.length w.heap.size (.slice (some ⟨g, 0, none⟩) (T.scopes.length + 1) cap)) (T.scopes.length + 1) = .pointer (some ⟨w.heap.size, 0, none⟩) := by
    unfold Lay.sp Lay.moreS
    simp [upd_same]
  have R1k := R1.opn i x hx
  rw [hopns] at R1k
  refine ⟨k0, k1, hS.cell 2 rfl, R1k, fun {w2 g2 cap2} hg2 => ?_⟩
  have hS2 := opn_cells R1 (i := i) hx hg2
  have hN2 : Blk w2 w.heap.size 113 (newScope L T.scopes.length (i + 1) sup) := (hN.far (p := ⟨L.t, 1, none⟩) (fun (e : w.heap.size = L.t) => by have := R.tree.lt; omega) _).grown hg2
    (fun h => by have := R1.kopn i x hx _ h; rw [R1b] at this; cases this)
  refine ⟨hS2.cell 2 rfl, hS2.frozen 2, hN2.cell 0 rfl, fun hv2 hat2 => ?_⟩
  obtain ⟨κ2, R2, E2⟩ := opn_mem R1 (i := i) hx (x.opn ++ [T.scopes.length + 1]) (w1 := w2) (g := g2) (cap := cap2) hg2 (by rw [List.map_append, hopns, List.map_singleton, hnew, List.length_append]; exact hv2) (by rw [hsz]; exact hat2)
  simp only [List.length_append, List.length_singleton] at R2 E2
  refine ⟨κ2, _, ?_, R2, E1.trans E2⟩
  rfl

set_option maxRecDepth 100000 in
theorem open_ok (R : Rep κ L T w) {n : Int} {i : Nat} {x : TaskA} (b : Bool) (h : T.run? n = some i) (hx : T.tasks[i]? = some x) (hl : x.leaving = false) (hf : T.scopes.length < 200)
    (hin : ∀ (i : Nat) (s : TaskA), T.tasks[i]? = some s → s.inn ≤ T.scopes.length) (hopn : ∀ (i : Nat) (s : TaskA), T.tasks[i]? = some s → ∀ n ∈ s.opn, n ≤ T.scopes.length) (hol : x.opn.length ≤ 1000) :
    Calls Try.prog 60 #[.pointer (some ⟨L.t, 0, none⟩), .int .i64 n, .bool b] w fun e w' => e = .returned (.tuple #[.int .i64 ((T.scopes.length : Int) + 1), .int .i64 0]) ∧
      ∃ κ' L', L'.t = L.t ∧ Rep κ' L' (T.opened i x b) w' ∧ Ext κ κ' w w' := by
  have C := Lib.hid (acts_some R h hx hl)
  obtain ⟨c0, c1⟩ := R.treecells
  have hss := R.ss
  obtain ⟨ad, cap, hv, hcap, hm⟩ := owns_len R.ss
  obtain ⟨ad2, cap2, hv2, hcap2, hm2⟩ := owns_len (R.opn i x hx)
  have hlt := R.tree.lt
  have MID : Hid (∀ {w1 : World} {g cap : Nat}, (w.alloc (.cells (newScope L T.scopes.length (i + 1) b) 113)).grownBy w1 L.ss.ownBlock → _ → _ → _) := fun {w1 g cap} => open_mid R b hin hopn hx (w1 := w1) (g := g) (cap := cap)
  rw [hv] at c1 hss MID
  rw [hv2] at MID
  unfold newScope at MID
  rw [Lay.tp_succ] at MID
  have HT := Lib.hid hss
  generalize hn' : T.scopes.length = m at *
  generalize x.opn.length = kl at *
  clear R hss hv hin hopn hn' hx hv2 h hl
  go_enter Try.func60, Try.ntmps60
  go_wp2_with (first | (go_at_call 77; refine C.out.mono ?_; rintro e w' ⟨rfl, rfl⟩) | (at_builtin; refine wpList_push rfl (.tmp 42) (.tmp 44) 105 rfl 109 1 8 _ Try.infoScopeP rfl (by omega) (by omega) Try.underlying105 (.slice ad m cap) m _ rfl (HT.out.alloc _) _ _ rfl (by simp) rfl (one_ptr _) (by omega) ?_; intro g cap' w1 hown' hgrow hat; obtain ⟨k0, k1, k4, K, K2⟩ := MID.out hgrow hown' (by simpa using hat)) | (at_builtin; refine wpList_push rfl (.tmp 52) (.tmp 54) 105 rfl 109 1 8 _ Try.infoScopeP rfl (by omega) (by omega) Try.underlying105 (.slice ad2 kl cap2) kl _ rfl K.out _ _ rfl (by simp) rfl (one_ptr _) (by omega) ?_; intro g2 cap3 w2 hown2 hgrow2 hat2; obtain ⟨j4, j4', j0, FIN⟩ := K2.out (g2 := g2) (cap2 := cap3) hgrow2))
  go_ret2
  exact ⟨rfl, FIN.out hown2 (by simpa [World.setCell] using hat2)⟩

end
end Go.Proofs.Ytoonkidlbnndcaa
