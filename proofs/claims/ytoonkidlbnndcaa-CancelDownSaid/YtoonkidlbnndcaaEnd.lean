/-
  A task has ended: (*Tree).End.
-/
import Derived.Test.YtoonkidlbnndcaaLeave3
namespace Go.Proofs.Ytoonkidlbnndcaa
set_option linter.unusedVariables false
set_option linter.unusedSimpArgs false
open Go.RowKit

section
variable {κ κ' : Kap} {L : Lay} {T : TreeA} {w w' : World}

theorem end_nil (n : Int) (f : Flt) (w : World) : Calls Try.prog 64 #[.pointer none, .int .i64 n, fltV f] w fun e w' => e = .returned (.tuple #[.slice none 0 0, .int .i64 2]) ∧ Below w.heap.size w w' := by
  obtain ⟨k, t⟩ := f
  unfold fltV
  simp only []
  go_enter Try.func64, Try.ntmps64
  go_wp2_with (go_at_call 74; refine (runs_nil _ _).mono ?_; rintro e w' ⟨rfl, rfl⟩)
  go_ret2
  exact ⟨rfl, by go_grown⟩
theorem end_none (R : Rep κ L T w) {n : Int} (f : Flt) (h : T.run? n = none) :
    Calls Try.prog 64 #[.pointer (some ⟨L.t, 0, none⟩), .int .i64 n, fltV f] w fun e w' => e = .returned (.tuple #[.slice none 0 0, .int .i64 6]) ∧ Below w.heap.size w w' := by
  obtain ⟨k, t⟩ := f
  unfold fltV
  simp only []
  have C : Hid (∀ o, _) := fun o => runs_none (R.alloc o) h
  clear R h
  go_enter Try.func64, Try.ntmps64
  go_wp2_with (go_at_call 74; refine (C.out _).mono ?_; rintro e w' ⟨rfl, rfl⟩)
  go_ret2
  exact ⟨rfl, by go_grown⟩
theorem end_arg (R : Rep κ L T w) {n : Int} {i : Nat} (f : Flt) (h : T.run? n = some i) (hok : okFlt f = false) :
    Calls Try.prog 64 #[.pointer (some ⟨L.t, 0, none⟩), .int .i64 n, fltV f] w fun e w' => e = .returned (.tuple #[.slice none 0 0, .int .i64 2]) ∧ Below w.heap.size w w' := by
  have V := Lib.hid (fault_any f)
  rw [hok] at V
  obtain ⟨k, t⟩ := f
  unfold fltV at V ⊢
  simp only [] at V ⊢
  have C : Hid (∀ o, _) := fun o => runs_some (R.alloc o) h
  clear R h hok
  go_enter Try.func64, Try.ntmps64
  go_wp2_with (first | (go_at_call 74; refine (C.out _).mono ?_; rintro e w' ⟨rfl, rfl⟩) | (go_at_call 84; refine (V.out _).mono ?_; rintro e w' ⟨rfl, hb⟩))
  go_ret2
  exact ⟨rfl, ((Below.refl _ _).alloc (Nat.le_refl _) _).trans (hb.mono (by simp))⟩
set_option maxRecDepth 100000 in
theorem end_place (R : Rep κ L T w) {n : Int} {i : Nat} {x : TaskA} (f : Flt) (h : T.run? n = some i) (hx : T.tasks[i]? = some x) (hok : okFlt f = true) (ho : x.opn ≠ []) :
    Calls Try.prog 64 #[.pointer (some ⟨L.t, 0, none⟩), .int .i64 n, fltV f] w fun e w' => e = .returned (.tuple #[.slice none 0 0, .int .i64 22]) ∧ Below w.heap.size w w' := by
  have V := Lib.hid (fault_any f)
  rw [hok] at V
  obtain ⟨ad, cap, hv, hcap, hm⟩ := owns_len (R.opn i x hx)
  have hpos : 0 < x.opn.length := List.length_pos_iff.2 ho
  have D2 : Hid (∀ W, Below w.heap.size w W → W.cell? ⟨L.tb i, 2, none⟩ = some (L.ov i)) := fun W hW => (R.below hW).tcells hx |>.2.2.1
  rw [hv] at D2
  generalize x.opn.length = m at *
  obtain ⟨k, t⟩ := f
  unfold fltV at V ⊢
  simp only [] at V ⊢
  have C : Hid (∀ o, _) := fun o => runs_some (R.alloc o) h
  clear R h hok hx hv ho
  go_enter Try.func64, Try.ntmps64
  go_wp2_with (first | (go_at_call 74; refine (C.out _).mono ?_; rintro e w' ⟨rfl, rfl⟩) | (go_at_call 84; refine (V.out _).mono ?_; rintro e w' ⟨rfl, hb⟩; have hb1 := ((Below.refl _ _).alloc (Nat.le_refl _) _).trans (hb.mono (by simp)); have d2 := D2.out _ hb1))
  go_ret2
  exact ⟨rfl, hb1⟩

theorem ended_mem (R : Rep κ L T w) {i : Nat} {x : TaskA} (hx : T.tasks[i]? = some x) (k : Int) (t : ByteArray) :
    Rep κ L { T with tasks := T.tasks.set i { x with ended := true, flt := ⟨k, t⟩ } } (((w.setCell ⟨L.tb i, 4, none⟩ (.bool true)).setCell ⟨L.tb i, 5, none⟩ (.int .i64 k)).setCell ⟨L.tb i, 6, none⟩ (.string t)) ∧
    Ext κ κ w (((w.setCell ⟨L.tb i, 4, none⟩ (.bool true)).setCell ⟨L.tb i, 5, none⟩ (.int .i64 k)).setCell ⟨L.tb i, 6, none⟩ (.string t)) := by
  have hk := R.ktask i x hx
  refine ⟨R.setTask hx rfl (gb_at (gb_at (gb_at (gb_refl _ _) _ _) _ _) _ _) ?_, (((Ext.refl κ w).setCell (by rw [hk]; simp) _).setCell (by rw [hk]; simp) _).setCell (by rw [hk]; simp) _⟩
  have e : L.tcells i { x with ended := true, flt := ⟨k, t⟩ } = (((L.tcells i x).setIfInBounds 4 (.bool true)).setIfInBounds 5 (.int .i64 k)).setIfInBounds 6 (.string t) := rfl
  rw [e]
  exact (((R.task i x hx).set_ 4 _).set_ 5 _).set_ 6 _

theorem live_mem (R : Rep κ L T w) {j : Nat} {s : ScopeA} (hs : T.scopes[j]? = some s) (n : Int) :
    Rep κ L { T with scopes := T.scopes.set j { s with live := n } } (w.setCell ⟨L.sb j, 5, none⟩ (.int .i64 n)) ∧ Ext κ κ w (w.setCell ⟨L.sb j, 5, none⟩ (.int .i64 n)) := by
  refine ⟨R.setScope hs rfl (gb_at (gb_refl _ _) _ _) ?_, (Ext.refl κ w).setCell (by rw [R.kscope j s hs]; simp) _⟩
  rw [← scells_live]
  exact (R.scope j s hs).set_ 5 _

theorem finEffs_len (i o : Nat) (x : TaskA) (s : ScopeA) (n : Nat) (hn : n ≤ 1 := by omega) : n + (finEffs i o x s).length ≤ 1000000 := by
  unfold finEffs
  split <;> simp <;> omega

/-- The tree in which task i has ended. -/
def TreeA.ended (T : TreeA) (i : Nat) (x : TaskA) (f : Flt) : TreeA := { T with tasks := T.tasks.set i { x with ended := true, flt := f } }
/-- .. and its scope counts it no more. -/
def TreeA.lost (T : TreeA) (i j : Nat) (x : TaskA) (s : ScopeA) (f : Flt) : TreeA := { tasks := T.tasks.set i { x with ended := true, flt := f }, scopes := T.scopes.set j { s with live := s.live - 1 } }

set_option maxRecDepth 100000 in
theorem end_root (R : Rep κ L T w) {n : Int} {i : Nat} {x : TaskA} (f : Flt) (h : T.run? n = some i) (hx : T.tasks[i]? = some x) (hok : okFlt f = true) (ho : x.opn = []) (hin : x.inn = 0) :
    Calls Try.prog 64 #[.pointer (some ⟨L.t, 0, none⟩), .int .i64 n, fltV f] w (LeavePost κ L w (T.ended i x f) []) := by
  have V := Lib.hid (fault_any f)
  rw [hok] at V
  have C : Hid (∀ o, _) := fun o => runs_some (R.alloc o) h
  obtain ⟨ad, cap, hv, hcap, hm⟩ := owns_len (R.opn i x hx)
  have D2 : Hid (∀ W, Below w.heap.size w W → W.cell? ⟨L.tb i, 2, none⟩ = some (L.ov i)) := fun W hW => (R.below hW).tcells hx |>.2.2.1
  rw [hv, ho] at D2
  simp only [List.length_nil] at D2
  have hkn : ∀ b, w.heap.size ≤ b → κ b = none := fun b hb => R.new_none hb
  have FX : Hid (∀ W, Below w.heap.size w W → Rep κ L T W) := fun W hW => R.below hW
  have HX := Lib.hid hx
  have Hk := Lib.hid hkn
  have Hin := Lib.hid hin
  obtain ⟨k, t⟩ := f
  unfold fltV at V ⊢
  simp only [] at V
  clear R h hx hok ho hv hkn hin
  go_enter Try.func64, Try.ntmps64
  go_wp2_with (first | (go_at_call 74; refine (C.out _).mono ?_; rintro e w' ⟨rfl, rfl⟩) | (go_at_call 84; refine (V.out _).mono ?_; rintro e W ⟨rfl, hb⟩; obtain ⟨hc, hfz⟩ := bcell hb; have hb1 := ((Below.refl _ _).alloc (Nat.le_refl _) _).trans (hb.mono (by simp)); have d2 := D2.out _ hb1))
  have hsz : w.heap.size < W.heap.size := by have := hb.size; simp at this; exact this
  have q0 : W.cell? ⟨w.heap.size, 0, none⟩ = some (.int .i64 k) := by go_simp
  have q1 : W.cell? ⟨w.heap.size, 1, none⟩ = some (.string t) := by go_simp
  have R1 := FX.out _ hb1
  have hX := R1.task i x HX.out
  have lx := hX.lt
  have fx4 := hX.frozen 4
  have fx5 := hX.frozen 5
  have fx6 := hX.frozen 6
  have c1 : W.cell? ⟨L.tb i, 1, none⟩ = some (L.sp x.inn) := hX.cell 1 rfl
  have c4 : W.cell? ⟨L.tb i, 4, none⟩ = some (.bool x.ended) := hX.cell 4 rfl
  have c5 : W.cell? ⟨L.tb i, 5, none⟩ = some (.int .i64 x.flt.kind) := hX.cell 5 rfl
  have c6 : W.cell? ⟨L.tb i, 6, none⟩ = some (.string x.flt.text) := hX.cell 6 rfl
  rw [Hin.out, Lay.sp_zero] at c1
  have HR1 := Lib.hid R1
  have HE1 := Lib.hid (Ext.of_below (κ := κ) hb1)
  clear R1 hX hc hfz hb hb1 d2 C V D2 FX
  go_region
  obtain ⟨R4, E4⟩ := ended_mem HR1.out HX.out k t
  have HR4 : Hid (Rep κ L (T.ended i x ⟨k, t⟩) ((((W.setCell ⟨L.tb i, 4, none⟩ (.bool true)).setCell ⟨L.tb i, 5, none⟩ (.int .i64 k)).setCell ⟨L.tb i, 6, none⟩ (.string t)).drew)) := R4.drew
  have HE4 : Hid (Ext κ κ w ((((W.setCell ⟨L.tb i, 4, none⟩ (.bool true)).setCell ⟨L.tb i, 5, none⟩ (.int .i64 k)).setCell ⟨L.tb i, 6, none⟩ (.string t)).drew)) := HE1.out.trans (E4.drewN 1)
  have q0 : ((((W.setCell ⟨L.tb i, 4, none⟩ (.bool true)).setCell ⟨L.tb i, 5, none⟩ (.int .i64 k)).setCell ⟨L.tb i, 6, none⟩ (.string t)).drew).cell? ⟨w.heap.size, 0, none⟩ = some (.int .i64 k) := by go_simp
  have q1 : ((((W.setCell ⟨L.tb i, 4, none⟩ (.bool true)).setCell ⟨L.tb i, 5, none⟩ (.int .i64 k)).setCell ⟨L.tb i, 6, none⟩ (.string t)).drew).cell? ⟨w.heap.size, 1, none⟩ = some (.string t) := by go_simp
  have c1 : ((((W.setCell ⟨L.tb i, 4, none⟩ (.bool true)).setCell ⟨L.tb i, 5, none⟩ (.int .i64 k)).setCell ⟨L.tb i, 6, none⟩ (.string t)).drew).cell? ⟨L.tb i, 1, none⟩ = some (.pointer none) := by go_simp
  have hsz4 : w.heap.size < ((((W.setCell ⟨L.tb i, 4, none⟩ (.bool true)).setCell ⟨L.tb i, 5, none⟩ (.int .i64 k)).setCell ⟨L.tb i, 6, none⟩ (.string t)).drew).heap.size := by simp; exact hsz
  clear R4 E4 HR1 HE1 c4 c5 c6 fx4 fx5 fx6 lx
  generalize ((((W.setCell ⟨L.tb i, 4, none⟩ (.bool true)).setCell ⟨L.tb i, 5, none⟩ (.int .i64 k)).setCell ⟨L.tb i, 6, none⟩ (.string t)).drew) = W4 at HR4 HE4 q0 q1 c1 hsz4 ⊢
  go_wp2
  go_ret2
  exact ⟨_, rfl, κ, L, rfl, HR4.out, HE4.out, eown_nil _ _, fun b hb => by cases hb⟩

set_option maxRecDepth 100000 in
set_option maxHeartbeats 1000000 in
theorem end_sup (R : Rep κ L T w) {n : Int} {i j o : Nat} {x y : TaskA} {s : ScopeA} (f : Flt) (h : T.run? n = some i) (hx : T.tasks[i]? = some x) (hok : okFlt f = true) (ho : x.opn = []) (hin : x.inn = j + 1) (hs : T.scopes[j]? = some s)
    (hso : s.owner = o + 1) (hoi : o ≠ i) (hy : T.tasks[o]? = some y) (hle : ∀ n ∈ y.opn, n ≤ T.scopes.length) (hl1 : 1 ≤ s.live) (hl2 : s.live ≤ 1000) (hsup : s.sup = true) :
    Calls Try.prog 64 #[.pointer (some ⟨L.t, 0, none⟩), .int .i64 n, fltV f] w (LeavePost κ L w (TreeA.fin (T.lost i j x s f) j o { s with live := s.live - 1 } y) (finEffs j o y { s with live := s.live - 1 })) := by
  have V := Lib.hid (fault_any f)
  rw [hok] at V
  have C : Hid (∀ o, _) := fun o => runs_some (R.alloc o) h
  obtain ⟨ad, cap, hv, hcap, hm⟩ := owns_len (R.opn i x hx)
  have D2 : Hid (∀ W, Below w.heap.size w W → W.cell? ⟨L.tb i, 2, none⟩ = some (L.ov i)) := fun W hW => (R.below hW).tcells hx |>.2.2.1
  rw [hv, ho] at D2
  simp only [List.length_nil] at D2
  have hkn : ∀ b, w.heap.size ≤ b → κ b = none := fun b hb => R.new_none hb
  have FX : Hid (∀ W, Below w.heap.size w W → Rep κ L T W) := fun W hW => R.below hW
  have HX := Lib.hid hx
  have Hk := Lib.hid hkn
  have Hin := Lib.hid hin
  have HS := Lib.hid hs
  have lj : j < T.scopes.length := (List.getElem?_eq_some_iff.1 hs).1
  have HB : Hid (∀ W, Rep κ L (T.lost i j x s f) W → Calls Try.prog 85 #[.pointer (some ⟨L.sb j, 0, none⟩), fltV f] W _) := fun W R2 => blame_any R2 (i := j) (s := { s with live := s.live - 1 }) (by simp [TreeA.lost, lj]) f
  have HF : Hid (∀ W, Rep κ L (T.lost i j x s f) W → Calls Try.prog 86 #[.pointer (some ⟨L.sb j, 0, none⟩)] W _) := fun W R2 => finish_any R2 (i := j) (s := { s with live := s.live - 1 }) (o := o) (x := y) (by simp [TreeA.lost, lj]) hso (by simp [TreeA.lost, TreeA.blame, hoi.symm, hy]) (by simp only [TreeA.lost, TreeA.blame, List.length_set, List.length_modify]; exact hle)
  obtain ⟨k, t⟩ := f
  unfold fltV at V HB HF ⊢
  simp only [] at V
  clear R h hx hok ho hv hkn hin hs hso hoi hy hle
  go_enter Try.func64, Try.ntmps64
  go_wp2_with (first | (go_at_call 74; refine (C.out _).mono ?_; rintro e w' ⟨rfl, rfl⟩) | (go_at_call 84; refine (V.out _).mono ?_; rintro e W ⟨rfl, hb⟩; obtain ⟨hc, hfz⟩ := bcell hb; have hb1 := ((Below.refl _ _).alloc (Nat.le_refl _) _).trans (hb.mono (by simp)); have d2 := D2.out _ hb1))
  have hsz : w.heap.size < W.heap.size := by have := hb.size; simp at this; exact this
  have q0 : W.cell? ⟨w.heap.size, 0, none⟩ = some (.int .i64 k) := by go_simp
  have q1 : W.cell? ⟨w.heap.size, 1, none⟩ = some (.string t) := by go_simp
  have R1 := FX.out _ hb1
  have hX := R1.task i x HX.out
  have lx := hX.lt
  have fx4 := hX.frozen 4
  have fx5 := hX.frozen 5
  have fx6 := hX.frozen 6
  have c1 : W.cell? ⟨L.tb i, 1, none⟩ = some (L.sp x.inn) := hX.cell 1 rfl
  have c4 : W.cell? ⟨L.tb i, 4, none⟩ = some (.bool x.ended) := hX.cell 4 rfl
  have c5 : W.cell? ⟨L.tb i, 5, none⟩ = some (.int .i64 x.flt.kind) := hX.cell 5 rfl
  have c6 : W.cell? ⟨L.tb i, 6, none⟩ = some (.string x.flt.text) := hX.cell 6 rfl
  rw [Hin.out, Lay.sp_succ] at c1
  have HR1 := Lib.hid R1
  have HE1 := Lib.hid (Ext.of_below (κ := κ) hb1)
  clear R1 hX hc hfz hb hb1 d2 C V D2 FX
  go_region
  obtain ⟨R4, E4⟩ := ended_mem HR1.out HX.out k t
  have HR4 : Hid (Rep κ L (T.ended i x ⟨k, t⟩) ((((W.setCell ⟨L.tb i, 4, none⟩ (.bool true)).setCell ⟨L.tb i, 5, none⟩ (.int .i64 k)).setCell ⟨L.tb i, 6, none⟩ (.string t)).drew)) := R4.drew
  have HE4 : Hid (Ext κ κ w ((((W.setCell ⟨L.tb i, 4, none⟩ (.bool true)).setCell ⟨L.tb i, 5, none⟩ (.int .i64 k)).setCell ⟨L.tb i, 6, none⟩ (.string t)).drew)) := HE1.out.trans (E4.drewN 1)
  have q0 : ((((W.setCell ⟨L.tb i, 4, none⟩ (.bool true)).setCell ⟨L.tb i, 5, none⟩ (.int .i64 k)).setCell ⟨L.tb i, 6, none⟩ (.string t)).drew).cell? ⟨w.heap.size, 0, none⟩ = some (.int .i64 k) := by go_simp
  have q1 : ((((W.setCell ⟨L.tb i, 4, none⟩ (.bool true)).setCell ⟨L.tb i, 5, none⟩ (.int .i64 k)).setCell ⟨L.tb i, 6, none⟩ (.string t)).drew).cell? ⟨w.heap.size, 1, none⟩ = some (.string t) := by go_simp
  have c1 : ((((W.setCell ⟨L.tb i, 4, none⟩ (.bool true)).setCell ⟨L.tb i, 5, none⟩ (.int .i64 k)).setCell ⟨L.tb i, 6, none⟩ (.string t)).drew).cell? ⟨L.tb i, 1, none⟩ = some (.pointer (some ⟨L.sb j, 0, none⟩)) := by go_simp
  have hsz4 : w.heap.size < ((((W.setCell ⟨L.tb i, 4, none⟩ (.bool true)).setCell ⟨L.tb i, 5, none⟩ (.int .i64 k)).setCell ⟨L.tb i, 6, none⟩ (.string t)).drew).heap.size := by simp; exact hsz
  clear R4 E4 HR1 HE1 c4 c5 c6 fx4 fx5 fx6 lx
  generalize ((((W.setCell ⟨L.tb i, 4, none⟩ (.bool true)).setCell ⟨L.tb i, 5, none⟩ (.int .i64 k)).setCell ⟨L.tb i, 6, none⟩ (.string t)).drew) = W4 at HR4 HE4 q0 q1 c1 hsz4 ⊢
  have hs4 : (T.ended i x ⟨k, t⟩).scopes[j]? = some s := HS.out
  obtain ⟨d0, _, d2, _, _, d5, _⟩ := HR4.out.scells hs4
  have hS := HR4.out.scope j s hs4
  have ls := hS.lt
  have fs5 := hS.frozen 5
  rw [hsup] at d2
  clear hS hsup
  go_wp2_with (go_at_call 86; fail)
  obtain ⟨R5, E5⟩ := live_mem HR4.out hs4 (s.live - 1)
  have HR7 := Lib.hid R5
  have HE7 := Lib.hid (HE4.out.trans E5)
  clear R5 E5 HR4 HE4 HB
  refine (HF.out _ HR7.out).mono ?_
  rintro e w5 ⟨v, rfl, κ', L', ht, R6, E6, O6, _⟩
  have HR6 := Lib.hid R6
  have HE6 := Lib.hid (HE7.out.trans E6)
  have HO6 := Lib.hid O6
  clear R6 E6 O6 HR7 HE7 HF
  go_wp2_with (at_builtin; refine wpList_extend rfl (.tmp 71) (.tmp 73) 51 rfl 62 5 48 _ Try.infoEffect rfl (by omega) (by omega) Try.underlying51 (.slice none 0 0) 0 [] rfl (World.ownsRow_nil _ _ _ _) v _ _ rfl HO6.out.1 (effs_one _) (finEffs_len _ _ _ _ _) ?_; intro v3 w6 hown5 hgrow hat; have hown5 := Lib.hid hown5)
  obtain ⟨R8, E8, hk8, hf8⟩ := close_ext (v3 := v3) HR6.out HE6.out (fun b hb => by cases hb) hgrow hat
  go_ret2
  exact ⟨v3, rfl, κ', L', ht, R8, E8, ⟨by simpa [EffA.cells, Nat.add_comm] using hown5.out, hk8⟩, hf8⟩

set_option maxRecDepth 100000 in
set_option maxHeartbeats 1000000 in
theorem end_yes (R : Rep κ L T w) {n : Int} {i j o : Nat} {x y : TaskA} {s : ScopeA} (f : Flt) (h : T.run? n = some i) (hx : T.tasks[i]? = some x) (hok : okFlt f = true) (ho : x.opn = []) (hin : x.inn = j + 1) (hs : T.scopes[j]? = some s)
    (hso : s.owner = o + 1) (hoi : o ≠ i) (hy : T.tasks[o]? = some y) (hle : ∀ n ∈ y.opn, n ≤ T.scopes.length) (hl1 : 1 ≤ s.live) (hl2 : s.live ≤ 1000) (hsup : s.sup = false) (hbl : f.kind = 1 ∧ s.flt.kind = 0) :
    Calls Try.prog 64 #[.pointer (some ⟨L.t, 0, none⟩), .int .i64 n, fltV f] w (LeavePost κ L w (TreeA.fin ((T.lost i j x s f).blame j f) j o (blameS { s with live := s.live - 1 } f) y) ([scopeEff j] ++ finEffs j o y (blameS { s with live := s.live - 1 } f))) := by
  have V := Lib.hid (fault_any f)
  rw [hok] at V
  have C : Hid (∀ o, _) := fun o => runs_some (R.alloc o) h
  obtain ⟨ad, cap, hv, hcap, hm⟩ := owns_len (R.opn i x hx)
  have D2 : Hid (∀ W, Below w.heap.size w W → W.cell? ⟨L.tb i, 2, none⟩ = some (L.ov i)) := fun W hW => (R.below hW).tcells hx |>.2.2.1
  rw [hv, ho] at D2
  simp only [List.length_nil] at D2
  have hkn : ∀ b, w.heap.size ≤ b → κ b = none := fun b hb => R.new_none hb
  have FX : Hid (∀ W, Below w.heap.size w W → Rep κ L T W) := fun W hW => R.below hW
  have HX := Lib.hid hx
  have Hk := Lib.hid hkn
  have Hin := Lib.hid hin
  have HS := Lib.hid hs
  have lj : j < T.scopes.length := (List.getElem?_eq_some_iff.1 hs).1
  have HB : Hid (∀ W, Rep κ L (T.lost i j x s f) W → Calls Try.prog 85 #[.pointer (some ⟨L.sb j, 0, none⟩), fltV f] W _) := fun W R2 => blame_any R2 (i := j) (s := { s with live := s.live - 1 }) (by simp [TreeA.lost, lj]) f
  have HF : Hid (∀ W, Rep κ L ((T.lost i j x s f).blame j f) W → Calls Try.prog 86 #[.pointer (some ⟨L.sb j, 0, none⟩)] W _) := fun W R2 => finish_any R2 (i := j) (s := (blameS { s with live := s.live - 1 } f)) (o := o) (x := y) (TreeA.blame_look (by simp [TreeA.lost, lj]) f) ((blameS_live _ f).2.1.trans hso) (by simp [TreeA.lost, TreeA.blame, hoi.symm, hy]) (by simp only [TreeA.lost, TreeA.blame, List.length_set, List.length_modify]; exact hle)
  have hbd : decide (f.kind = 1 ∧ s.flt.kind = 0) = true := by simp [hbl]
  have Hbd := Lib.hid hbd
  obtain ⟨k, t⟩ := f
  unfold fltV at V HB HF ⊢
  simp only [] at V Hbd
  clear R h hx hok ho hv hkn hin hs hso hoi hy hle hbl hbd
  go_enter Try.func64, Try.ntmps64
  go_wp2_with (first | (go_at_call 74; refine (C.out _).mono ?_; rintro e w' ⟨rfl, rfl⟩) | (go_at_call 84; refine (V.out _).mono ?_; rintro e W ⟨rfl, hb⟩; obtain ⟨hc, hfz⟩ := bcell hb; have hb1 := ((Below.refl _ _).alloc (Nat.le_refl _) _).trans (hb.mono (by simp)); have d2 := D2.out _ hb1))
  have hsz : w.heap.size < W.heap.size := by have := hb.size; simp at this; exact this
  have q0 : W.cell? ⟨w.heap.size, 0, none⟩ = some (.int .i64 k) := by go_simp
  have q1 : W.cell? ⟨w.heap.size, 1, none⟩ = some (.string t) := by go_simp
  have R1 := FX.out _ hb1
  have hX := R1.task i x HX.out
  have lx := hX.lt
  have fx4 := hX.frozen 4
  have fx5 := hX.frozen 5
  have fx6 := hX.frozen 6
  have c1 : W.cell? ⟨L.tb i, 1, none⟩ = some (L.sp x.inn) := hX.cell 1 rfl
  have c4 : W.cell? ⟨L.tb i, 4, none⟩ = some (.bool x.ended) := hX.cell 4 rfl
  have c5 : W.cell? ⟨L.tb i, 5, none⟩ = some (.int .i64 x.flt.kind) := hX.cell 5 rfl
  have c6 : W.cell? ⟨L.tb i, 6, none⟩ = some (.string x.flt.text) := hX.cell 6 rfl
  rw [Hin.out, Lay.sp_succ] at c1
  have HR1 := Lib.hid R1
  have HE1 := Lib.hid (Ext.of_below (κ := κ) hb1)
  clear R1 hX hc hfz hb hb1 d2 C V D2 FX
  go_region
  obtain ⟨R4, E4⟩ := ended_mem HR1.out HX.out k t
  have HR4 : Hid (Rep κ L (T.ended i x ⟨k, t⟩) ((((W.setCell ⟨L.tb i, 4, none⟩ (.bool true)).setCell ⟨L.tb i, 5, none⟩ (.int .i64 k)).setCell ⟨L.tb i, 6, none⟩ (.string t)).drew)) := R4.drew
  have HE4 : Hid (Ext κ κ w ((((W.setCell ⟨L.tb i, 4, none⟩ (.bool true)).setCell ⟨L.tb i, 5, none⟩ (.int .i64 k)).setCell ⟨L.tb i, 6, none⟩ (.string t)).drew)) := HE1.out.trans (E4.drewN 1)
  have q0 : ((((W.setCell ⟨L.tb i, 4, none⟩ (.bool true)).setCell ⟨L.tb i, 5, none⟩ (.int .i64 k)).setCell ⟨L.tb i, 6, none⟩ (.string t)).drew).cell? ⟨w.heap.size, 0, none⟩ = some (.int .i64 k) := by go_simp
  have q1 : ((((W.setCell ⟨L.tb i, 4, none⟩ (.bool true)).setCell ⟨L.tb i, 5, none⟩ (.int .i64 k)).setCell ⟨L.tb i, 6, none⟩ (.string t)).drew).cell? ⟨w.heap.size, 1, none⟩ = some (.string t) := by go_simp
  have c1 : ((((W.setCell ⟨L.tb i, 4, none⟩ (.bool true)).setCell ⟨L.tb i, 5, none⟩ (.int .i64 k)).setCell ⟨L.tb i, 6, none⟩ (.string t)).drew).cell? ⟨L.tb i, 1, none⟩ = some (.pointer (some ⟨L.sb j, 0, none⟩)) := by go_simp
  have hsz4 : w.heap.size < ((((W.setCell ⟨L.tb i, 4, none⟩ (.bool true)).setCell ⟨L.tb i, 5, none⟩ (.int .i64 k)).setCell ⟨L.tb i, 6, none⟩ (.string t)).drew).heap.size := by simp; exact hsz
  clear R4 E4 HR1 HE1 c4 c5 c6 fx4 fx5 fx6 lx
  generalize ((((W.setCell ⟨L.tb i, 4, none⟩ (.bool true)).setCell ⟨L.tb i, 5, none⟩ (.int .i64 k)).setCell ⟨L.tb i, 6, none⟩ (.string t)).drew) = W4 at HR4 HE4 q0 q1 c1 hsz4 ⊢
  have hs4 : (T.ended i x ⟨k, t⟩).scopes[j]? = some s := HS.out
  obtain ⟨d0, _, d2, _, _, d5, _⟩ := HR4.out.scells hs4
  have hS := HR4.out.scope j s hs4
  have ls := hS.lt
  have fs5 := hS.frozen 5
  rw [hsup] at d2
  clear hS hsup
  go_wp2_with (go_at_call 85; fail)
  obtain ⟨R5, E5⟩ := live_mem HR4.out hs4 (s.live - 1)
  refine (HB.out _ R5).mono ?_
  rintro e W5 ⟨⟨b, rfl, hbb⟩, R6, E6⟩
  rw [Hbd.out] at hbb
  subst hbb
  have d0 := (R6.scells (TreeA.blame_look (T := T.lost i j x s ⟨k, t⟩) (i := j) (s := { s with live := s.live - 1 }) (by simp [TreeA.lost, lj]) ⟨k, t⟩)).1
  have HR7 := Lib.hid R6
  have HE7 := Lib.hid ((HE4.out.trans E5).trans E6)
  clear R5 E5 R6 E6 HR4 HE4 HB d2 d5 q0 q1 c1 fs5
  have hEx : Hid (W5.ownsRow 0 62 5 (.slice none 0 0) 0 []) := World.ownsRow_nil _ _ _ _
  go_wp2_with (first | (at_builtin; refine wpList_push rfl (.tmp 63) (.tmp 69) 51 rfl 62 5 48 _ Try.infoEffect rfl (by omega) (by omega) Try.underlying51 (.slice none 0 0) 0 _ rfl hEx.out _ _ rfl rfl rfl (Try.effOne (scopeEff j)) (by omega) ?_; intro g cap w3 hown3 hgrow3 hat3; have hb3 : Below W5.heap.size W5 w3 := ⟨hgrow3.os, hgrow3.tape, hgrow3.output, hgrow3.size, fun b hb => hgrow3.block b hb (by simp [Value.ownBlock])⟩) | (go_at_call 86; fail))
  have HR8 := Lib.hid (HR7.out.below hb3)
  have HE8 := Lib.hid (HE7.out.trans (Ext.of_below hb3))
  have hg3 : Hid (W5.heap.size ≤ g) := hat3.elim (fun h => by cases h) id
  have hg4 : Hid (w.heap.size ≤ g) := Nat.le_trans HE7.out.size hg3.out
  have hown3 := Lib.hid hown3
  clear hat3 hgrow3 hb3 HR7 HE7
  refine (HF.out _ HR8.out).mono ?_
  rintro e w5 ⟨v, rfl, κ', L', ht, R6, E6, O6, _⟩
  have hown6 : Hid (w5.ownsRow 0 62 5 (.slice (some ⟨g, 0, none⟩) (0 + 1) cap) (0 + 1) ([] ++ [.int .i64 (scopeEff j).kind, .int .i64 (scopeEff j).n, .int .i64 (scopeEff j).m, .int .i64 (scopeEff j).flt.kind, .string (scopeEff j).flt.text])) :=
    owns_of hown3.out fun b hb => by
      have hb : g = b := (by simpa [Value.ownBlock] using hb)
      subst hb
      exact E6.keep _ (hown3.out.lt g rfl).2 (Hk.out _ hg4.out)
  have hgk : Hid (κ' g = none) := (E6.old g (hown3.out.lt g rfl).2).trans (Hk.out _ hg4.out)
  have HR6 := Lib.hid R6
  have HE6 := Lib.hid (HE8.out.trans E6)
  have HO6 := Lib.hid O6
  clear R6 E6 O6 HR8 HE8 HF
  go_wp2_with (at_builtin; refine wpList_extend rfl (.tmp 71) (.tmp 73) 51 rfl 62 5 48 _ Try.infoEffect rfl (by omega) (by omega) Try.underlying51 (.slice (some ⟨g, 0, none⟩) (0 + 1) cap) 1 _ rfl hown6.out v _ _ rfl HO6.out.1 (effs_one _) (finEffs_len _ _ _ _ _) ?_; intro v3 w6 hown5 hgrow hat; have hown5 := Lib.hid hown5)
  obtain ⟨R8, E8, hk8, hf8⟩ := close_ext (v3 := v3) HR6.out HE6.out (fun b hb => by have hb : g = b := (by simpa [Value.ownBlock] using hb); subst hb; exact ⟨hgk.out, hg4.out⟩) hgrow hat
  go_ret2
  exact ⟨v3, rfl, κ', L', ht, R8, E8, ⟨by simpa [EffA.cells, Nat.add_comm] using hown5.out, hk8⟩, hf8⟩

set_option maxRecDepth 100000 in
set_option maxHeartbeats 1000000 in
theorem end_no (R : Rep κ L T w) {n : Int} {i j o : Nat} {x y : TaskA} {s : ScopeA} (f : Flt) (h : T.run? n = some i) (hx : T.tasks[i]? = some x) (hok : okFlt f = true) (ho : x.opn = []) (hin : x.inn = j + 1) (hs : T.scopes[j]? = some s)
    (hso : s.owner = o + 1) (hoi : o ≠ i) (hy : T.tasks[o]? = some y) (hle : ∀ n ∈ y.opn, n ≤ T.scopes.length) (hl1 : 1 ≤ s.live) (hl2 : s.live ≤ 1000) (hsup : s.sup = false) (hbl : ¬ (f.kind = 1 ∧ s.flt.kind = 0)) :
    Calls Try.prog 64 #[.pointer (some ⟨L.t, 0, none⟩), .int .i64 n, fltV f] w (LeavePost κ L w (TreeA.fin ((T.lost i j x s f).blame j f) j o (blameS { s with live := s.live - 1 } f) y) (finEffs j o y (blameS { s with live := s.live - 1 } f))) := by
  have V := Lib.hid (fault_any f)
  rw [hok] at V
  have C : Hid (∀ o, _) := fun o => runs_some (R.alloc o) h
  obtain ⟨ad, cap, hv, hcap, hm⟩ := owns_len (R.opn i x hx)
  have D2 : Hid (∀ W, Below w.heap.size w W → W.cell? ⟨L.tb i, 2, none⟩ = some (L.ov i)) := fun W hW => (R.below hW).tcells hx |>.2.2.1
  rw [hv, ho] at D2
  simp only [List.length_nil] at D2
  have hkn : ∀ b, w.heap.size ≤ b → κ b = none := fun b hb => R.new_none hb
  have FX : Hid (∀ W, Below w.heap.size w W → Rep κ L T W) := fun W hW => R.below hW
  have HX := Lib.hid hx
  have Hk := Lib.hid hkn
  have Hin := Lib.hid hin
  have HS := Lib.hid hs
  have lj : j < T.scopes.length := (List.getElem?_eq_some_iff.1 hs).1
  have HB : Hid (∀ W, Rep κ L (T.lost i j x s f) W → Calls Try.prog 85 #[.pointer (some ⟨L.sb j, 0, none⟩), fltV f] W _) := fun W R2 => blame_any R2 (i := j) (s := { s with live := s.live - 1 }) (by simp [TreeA.lost, lj]) f
  have HF : Hid (∀ W, Rep κ L ((T.lost i j x s f).blame j f) W → Calls Try.prog 86 #[.pointer (some ⟨L.sb j, 0, none⟩)] W _) := fun W R2 => finish_any R2 (i := j) (s := (blameS { s with live := s.live - 1 } f)) (o := o) (x := y) (TreeA.blame_look (by simp [TreeA.lost, lj]) f) ((blameS_live _ f).2.1.trans hso) (by simp [TreeA.lost, TreeA.blame, hoi.symm, hy]) (by simp only [TreeA.lost, TreeA.blame, List.length_set, List.length_modify]; exact hle)
  have hbd : decide (f.kind = 1 ∧ s.flt.kind = 0) = false := by simp only [decide_eq_false_iff_not]; exact hbl
  have Hbd := Lib.hid hbd
  obtain ⟨k, t⟩ := f
  unfold fltV at V HB HF ⊢
  simp only [] at V Hbd
  clear R h hx hok ho hv hkn hin hs hso hoi hy hle hbl hbd
  go_enter Try.func64, Try.ntmps64
  go_wp2_with (first | (go_at_call 74; refine (C.out _).mono ?_; rintro e w' ⟨rfl, rfl⟩) | (go_at_call 84; refine (V.out _).mono ?_; rintro e W ⟨rfl, hb⟩; obtain ⟨hc, hfz⟩ := bcell hb; have hb1 := ((Below.refl _ _).alloc (Nat.le_refl _) _).trans (hb.mono (by simp)); have d2 := D2.out _ hb1))
  have hsz : w.heap.size < W.heap.size := by have := hb.size; simp at this; exact this
  have q0 : W.cell? ⟨w.heap.size, 0, none⟩ = some (.int .i64 k) := by go_simp
  have q1 : W.cell? ⟨w.heap.size, 1, none⟩ = some (.string t) := by go_simp
  have R1 := FX.out _ hb1
  have hX := R1.task i x HX.out
  have lx := hX.lt
  have fx4 := hX.frozen 4
  have fx5 := hX.frozen 5
  have fx6 := hX.frozen 6
  have c1 : W.cell? ⟨L.tb i, 1, none⟩ = some (L.sp x.inn) := hX.cell 1 rfl
  have c4 : W.cell? ⟨L.tb i, 4, none⟩ = some (.bool x.ended) := hX.cell 4 rfl
  have c5 : W.cell? ⟨L.tb i, 5, none⟩ = some (.int .i64 x.flt.kind) := hX.cell 5 rfl
  have c6 : W.cell? ⟨L.tb i, 6, none⟩ = some (.string x.flt.text) := hX.cell 6 rfl
  rw [Hin.out, Lay.sp_succ] at c1
  have HR1 := Lib.hid R1
  have HE1 := Lib.hid (Ext.of_below (κ := κ) hb1)
  clear R1 hX hc hfz hb hb1 d2 C V D2 FX
  go_region
  obtain ⟨R4, E4⟩ := ended_mem HR1.out HX.out k t
  have HR4 : Hid (Rep κ L (T.ended i x ⟨k, t⟩) ((((W.setCell ⟨L.tb i, 4, none⟩ (.bool true)).setCell ⟨L.tb i, 5, none⟩ (.int .i64 k)).setCell ⟨L.tb i, 6, none⟩ (.string t)).drew)) := R4.drew
  have HE4 : Hid (Ext κ κ w ((((W.setCell ⟨L.tb i, 4, none⟩ (.bool true)).setCell ⟨L.tb i, 5, none⟩ (.int .i64 k)).setCell ⟨L.tb i, 6, none⟩ (.string t)).drew)) := HE1.out.trans (E4.drewN 1)
  have q0 : ((((W.setCell ⟨L.tb i, 4, none⟩ (.bool true)).setCell ⟨L.tb i, 5, none⟩ (.int .i64 k)).setCell ⟨L.tb i, 6, none⟩ (.string t)).drew).cell? ⟨w.heap.size, 0, none⟩ = some (.int .i64 k) := by go_simp
  have q1 : ((((W.setCell ⟨L.tb i, 4, none⟩ (.bool true)).setCell ⟨L.tb i, 5, none⟩ (.int .i64 k)).setCell ⟨L.tb i, 6, none⟩ (.string t)).drew).cell? ⟨w.heap.size, 1, none⟩ = some (.string t) := by go_simp
  have c1 : ((((W.setCell ⟨L.tb i, 4, none⟩ (.bool true)).setCell ⟨L.tb i, 5, none⟩ (.int .i64 k)).setCell ⟨L.tb i, 6, none⟩ (.string t)).drew).cell? ⟨L.tb i, 1, none⟩ = some (.pointer (some ⟨L.sb j, 0, none⟩)) := by go_simp
  have hsz4 : w.heap.size < ((((W.setCell ⟨L.tb i, 4, none⟩ (.bool true)).setCell ⟨L.tb i, 5, none⟩ (.int .i64 k)).setCell ⟨L.tb i, 6, none⟩ (.string t)).drew).heap.size := by simp; exact hsz
  clear R4 E4 HR1 HE1 c4 c5 c6 fx4 fx5 fx6 lx
  generalize ((((W.setCell ⟨L.tb i, 4, none⟩ (.bool true)).setCell ⟨L.tb i, 5, none⟩ (.int .i64 k)).setCell ⟨L.tb i, 6, none⟩ (.string t)).drew) = W4 at HR4 HE4 q0 q1 c1 hsz4 ⊢
  have hs4 : (T.ended i x ⟨k, t⟩).scopes[j]? = some s := HS.out
  obtain ⟨d0, _, d2, _, _, d5, _⟩ := HR4.out.scells hs4
  have hS := HR4.out.scope j s hs4
  have ls := hS.lt
  have fs5 := hS.frozen 5
  rw [hsup] at d2
  clear hS hsup
  go_wp2_with (go_at_call 85; fail)
  obtain ⟨R5, E5⟩ := live_mem HR4.out hs4 (s.live - 1)
  refine (HB.out _ R5).mono ?_
  rintro e W5 ⟨⟨b, rfl, hbb⟩, R6, E6⟩
  rw [Hbd.out] at hbb
  subst hbb
  have d0 := (R6.scells (TreeA.blame_look (T := T.lost i j x s ⟨k, t⟩) (i := j) (s := { s with live := s.live - 1 }) (by simp [TreeA.lost, lj]) ⟨k, t⟩)).1
  have HR7 := Lib.hid R6
  have HE7 := Lib.hid ((HE4.out.trans E5).trans E6)
  clear R5 E5 R6 E6 HR4 HE4 HB d2 d5 q0 q1 c1 fs5
  go_wp2_with (go_at_call 86; fail)
  refine (HF.out _ HR7.out).mono ?_
  rintro e w5 ⟨v, rfl, κ', L', ht, R6, E6, O6, _⟩
  have HR6 := Lib.hid R6
  have HE6 := Lib.hid (HE7.out.trans E6)
  have HO6 := Lib.hid O6
  clear R6 E6 O6 HR7 HE7 HF
  go_wp2_with (at_builtin; refine wpList_extend rfl (.tmp 71) (.tmp 73) 51 rfl 62 5 48 _ Try.infoEffect rfl (by omega) (by omega) Try.underlying51 (.slice none 0 0) 0 [] rfl (World.ownsRow_nil _ _ _ _) v _ _ rfl HO6.out.1 (effs_one _) (finEffs_len _ _ _ _ _) ?_; intro v3 w6 hown5 hgrow hat; have hown5 := Lib.hid hown5)
  obtain ⟨R8, E8, hk8, hf8⟩ := close_ext (v3 := v3) HR6.out HE6.out (fun b hb => by cases hb) hgrow hat
  go_ret2
  exact ⟨v3, rfl, κ', L', ht, R8, E8, ⟨by simpa [EffA.cells, Nat.add_comm] using hown5.out, hk8⟩, hf8⟩

end
end Go.Proofs.Ytoonkidlbnndcaa
