/-
  The block of a scope has ended: (*Tree).Leave, where it may: its four ways.
-/
import Derived.Test.YtoonkidlbnndcaaLeave
namespace Go.Proofs.Ytoonkidlbnndcaa
set_option linter.unusedVariables false
set_option linter.unusedSimpArgs false
open Go.RowKit

theorem Try.effOne (e : EffA) : ∀ u ∈ (#[.int .i64 e.kind, .int .i64 e.n, .int .i64 e.m, .int .i64 e.flt.kind, .string e.flt.text] : Array Value).toList, u.oneCell' = true := by simp [Value.oneCell']
theorem effs_one (es : List EffA) : ∀ u ∈ es.flatMap EffA.cells, u.oneCell' = true := by
  intro u hu
  rw [List.mem_flatMap] at hu
  obtain ⟨e, _, he⟩ := hu
  simp [EffA.cells] at he
  rcases he with rfl | rfl | rfl | rfl | rfl <;> rfl

section
variable {κ κ' : Kap} {L : Lay} {T : TreeA} {w w' : World}

theorem leaves_look {T : TreeA} {i j : Nat} {x : TaskA} {s : ScopeA} (f : Flt) (hx : T.tasks[i]? = some x) (hs : T.scopes[j]? = some s) :
    (T.leaves i j x f).tasks[i]? = some { x with leaving := true, flt := f } ∧ (T.leaves i j x f).scopes[j]? = some (blameS s f) := by
  refine ⟨?_, TreeA.blame_look hs f⟩
  have hl := (List.getElem?_eq_some_iff.1 hx).1
  simp [TreeA.leaves, hl]

theorem leaves_len {T : TreeA} {i j : Nat} {x : TaskA} {f : Flt} : (T.leaves i j x f).scopes.length = T.scopes.length := by simp [TreeA.leaves, TreeA.blame]

/-- What a call with effects leaves. -/
def LeavePost (κ : Kap) (L : Lay) (w : World) (T' : TreeA) (es : List EffA) (e : Ending) (w' : World) : Prop :=
  ∃ v, e = .returned (.tuple #[v, .int .i64 0]) ∧ ∃ κ' L', L'.t = L.t ∧ Rep κ' L' T' w' ∧ Ext κ κ' w w' ∧ EOwn κ' w' v es ∧ Fresh w v

/-- A slice that is nobody's and new has been appended to. -/
theorem close_ext {κ0 : Kap} {W w6 : World} {v v3 : Value} (R : Rep κ L T W) (E : Ext κ0 κ w W) (hv : ∀ b, v.ownBlock = some b → κ b = none ∧ w.heap.size ≤ b) (hg : W.grownBy w6 v.ownBlock)
    (hat : v3.ownBlock = v.ownBlock ∨ v3.ownBlock = some W.heap.size) : Rep κ L T w6 ∧ Ext κ0 κ w w6 ∧ (∀ b, v3.ownBlock = some b → κ b = none) ∧ Fresh w v3 := by
  refine ⟨R.grown hg fun b hb => (hv b hb).1, E.grownNew hg fun b hb => (hv b hb).2, fun b hb => ?_, fun b hb => ?_⟩
  · rcases hat with h | h
    · exact (hv b (h.symm.trans hb)).1
    · rw [h] at hb; cases hb; exact R.new_none (Nat.le_refl _)
  · rcases hat with h | h
    · exact (hv b (h.symm.trans hb)).2
    · rw [h] at hb; cases hb; exact E.size

set_option maxRecDepth 100000 in
set_option maxHeartbeats 1000000 in
theorem leave_run0 (R : Rep κ L T w) {n : Int} {i j : Nat} {x : TaskA} {s : ScopeA} {l : List Nat} (f : Flt) (h : T.run? n = some i) (hx : T.tasks[i]? = some x) (hok : okFlt f = true) (hlv : x.leaving = false) (hl : x.opn = l ++ [j + 1]) (hs : T.scopes[j]? = some s)
    (ho : s.owner = i + 1) (hle : ∀ n ∈ x.opn, n ≤ T.scopes.length) (hlive : 0 < s.live) (hf : f.kind = 0) :
    Calls Try.prog 65 #[.pointer (some ⟨L.t, 0, none⟩), .int .i64 n, fltV f] w (LeavePost κ L w (T.leaves i j x f) []) := by
  have V := Lib.hid (fault_any f)
  rw [hok] at V
  have C : Hid (∀ o, _) := fun o => runs_some (R.alloc o) h
  have D3 : Hid (∀ W, Below w.heap.size w W → W.cell? ⟨L.tb i, 3, none⟩ = some (.bool x.leaving)) := fun W hW => (R.below hW).tcells hx |>.2.2.2.1
  have I : Hid (∀ W, Below w.heap.size w W → Calls _ _ _ W _) := fun W hW => inner_some (R.below hW) hx hl
  rw [Lay.sp_succ] at I
  rw [hlv] at D3
  have B : Hid (∀ W, Below w.heap.size w W → Calls Try.prog _ _ W _) := fun W hW => blame_any (R.below hW) hs f
  have hkn : ∀ b, w.heap.size ≤ b → κ b = none := fun b hb => R.new_none hb
  have F : Hid (∀ W, Rep κ L (T.leaves i j x f) W → Calls Try.prog 86 #[.pointer (some ⟨L.sb j, 0, none⟩)] W _) := fun W R2 =>
    finish_no R2 (leaves_look f hx hs).2 ((blameS_live s f).2.1.trans ho) (leaves_look f hx hs).1 (by rw [leaves_len]; exact hle) (fun h => by have := h.2.2; rw [(blameS_live s f).1] at this; omega)
  have HX := Lib.hid hx
  have HS := Lib.hid hs
  have Hk := Lib.hid hkn
  obtain ⟨k, t⟩ := f
  unfold fltV at V B ⊢
  simp only [] at V hf
  subst hf
  clear R h hx hok hlv hl hs hkn
  go_enter Try.func65, Try.ntmps65
  go_wp2_with (first | (go_at_call 74; refine (C.out _).mono ?_; rintro e w' ⟨rfl, rfl⟩) | (go_at_call 84; refine (V.out _).mono ?_; rintro e w' ⟨rfl, hb⟩; obtain ⟨hc, hfz⟩ := bcell hb; have hb1 := ((Below.refl _ _).alloc (Nat.le_refl _) _).trans (hb.mono (by simp)); have d3 := D3.out _ hb1) | (go_at_call 78; refine (I.out _ hb1).mono ?_; rintro e w2 ⟨rfl, kk, rfl⟩) | (go_at_call 85; fail))
  have hbk : Below w.heap.size w (w'.drewN kk) := hb1.trans ⟨rfl, rfl, rfl, Nat.le_refl _, fun _ _ => rfl⟩
  have hszk : w.heap.size < (w'.drewN kk).heap.size := by have := hb.size; simp at this; exact this
  have q0 : (w'.drewN kk).cell? ⟨w.heap.size, 0, none⟩ = some (.int .i64 0) := by go_simp
  have q1 : (w'.drewN kk).cell? ⟨w.heap.size, 1, none⟩ = some (.string t) := by go_simp
  refine (B.out _ hbk).mono ?_
  rintro e W ⟨⟨b, rfl, _⟩, R2, E2⟩
  have q0 := (E2.cell (p := ⟨w.heap.size, 0, none⟩) (Hk.out _ (Nat.le_refl _)) hszk).trans q0
  have q1 := (E2.cell (p := ⟨w.heap.size, 1, none⟩) (Hk.out _ (Nat.le_refl _)) hszk).trans q1
  have hsz : w.heap.size < W.heap.size := Nat.lt_of_lt_of_le hszk E2.size
  have E2 := (Ext.of_below hbk).trans E2
  clear hbk hszk hc hfz hb hb1 d3 C V I B D3
  obtain ⟨d0, _, _, _, _, d5, _⟩ := R2.scells (TreeA.blame_look HS.out ⟨0, t⟩)
  rw [(blameS_live s ⟨0, t⟩).1] at d5
  have ls := (R2.scope j _ (TreeA.blame_look HS.out ⟨0, t⟩)).lt
  have hX := R2.task i x HX.out
  have lx := hX.lt
  have fx3 := hX.frozen 3
  have fx5 := hX.frozen 5
  have fx6 := hX.frozen 6
  have c3 : W.cell? ⟨L.tb i, 3, none⟩ = some (.bool x.leaving) := hX.cell 3 rfl
  have c5 : W.cell? ⟨L.tb i, 5, none⟩ = some (.int .i64 x.flt.kind) := hX.cell 5 rfl
  have c6 : W.cell? ⟨L.tb i, 6, none⟩ = some (.string x.flt.text) := hX.cell 6 rfl
  have HR2 := Lib.hid R2
  have HE2 := Lib.hid E2
  clear R2 E2 hX
  go_wp2
  go_region
  obtain ⟨R4, E4⟩ := leaving_mem HR2.out HX.out 0 t
  have HR4 : Hid (Rep κ L (T.leaves i j x ⟨0, t⟩) ((((W.setCell ⟨L.tb i, 3, none⟩ (.bool true)).setCell ⟨L.tb i, 5, none⟩ (.int .i64 0)).setCell ⟨L.tb i, 6, none⟩ (.string t)).drew)) := R4.drew
  have HE4 : Hid (Ext κ κ w ((((W.setCell ⟨L.tb i, 3, none⟩ (.bool true)).setCell ⟨L.tb i, 5, none⟩ (.int .i64 0)).setCell ⟨L.tb i, 6, none⟩ (.string t)).drew)) := HE2.out.trans (E4.drewN 1)
  clear R4 E4 HR2 HE2 q0 q1 d0 d5 fx3 fx5 fx6 c3 c5 c6
  generalize ((((W.setCell ⟨L.tb i, 3, none⟩ (.bool true)).setCell ⟨L.tb i, 5, none⟩ (.int .i64 0)).setCell ⟨L.tb i, 6, none⟩ (.string t)).drew) = W4 at HR4 HE4 ⊢
  go_wp2_with (first | (go_at_call 86; refine (F.out _ HR4.out).mono ?_; rintro e w5 ⟨rfl, kf, rfl⟩) | (at_builtin; refine wpList_extend rfl (.tmp 72) (.tmp 74) 51 rfl 62 5 48 _ Try.infoEffect rfl (by omega) (by omega) Try.underlying51 (.slice none 0 0) 0 [] rfl (World.ownsRow_nil _ _ _ _) (.slice none 0 0) 0 [] rfl (World.ownsRow_nil _ _ _ _) (by simp) (by omega) ?_; intro v3 w6 hown5 hgrow hat; have hown5 := Lib.hid hown5))
  obtain ⟨R6, E6, hk6, hf6⟩ := close_ext (v3 := v3) (HR4.out.drewN kf) (HE4.out.drewN kf) (fun b hb => by cases hb) hgrow hat
  go_ret2
  exact ⟨v3, rfl, κ, L, rfl, R6, E6, ⟨by simpa [EffA.cells] using hown5.out, hk6⟩, hf6⟩

set_option maxRecDepth 100000 in
set_option maxHeartbeats 1000000 in
theorem leave_run1 (R : Rep κ L T w) {n : Int} {i j : Nat} {x : TaskA} {s : ScopeA} {l : List Nat} (f : Flt) (h : T.run? n = some i) (hx : T.tasks[i]? = some x) (hok : okFlt f = true) (hlv : x.leaving = false) (hl : x.opn = l ++ [j + 1]) (hs : T.scopes[j]? = some s)
    (ho : s.owner = i + 1) (hle : ∀ n ∈ x.opn, n ≤ T.scopes.length) (hlive : 0 < s.live) (hf : f.kind ≠ 0) :
    Calls Try.prog 65 #[.pointer (some ⟨L.t, 0, none⟩), .int .i64 n, fltV f] w (LeavePost κ L w (T.leaves i j x f) [scopeEff j]) := by
  have V := Lib.hid (fault_any f)
  rw [hok] at V
  have C : Hid (∀ o, _) := fun o => runs_some (R.alloc o) h
  have D3 : Hid (∀ W, Below w.heap.size w W → W.cell? ⟨L.tb i, 3, none⟩ = some (.bool x.leaving)) := fun W hW => (R.below hW).tcells hx |>.2.2.2.1
  have I : Hid (∀ W, Below w.heap.size w W → Calls _ _ _ W _) := fun W hW => inner_some (R.below hW) hx hl
  rw [Lay.sp_succ] at I
  rw [hlv] at D3
  have B : Hid (∀ W, Below w.heap.size w W → Calls Try.prog _ _ W _) := fun W hW => blame_any (R.below hW) hs f
  have hkn : ∀ b, w.heap.size ≤ b → κ b = none := fun b hb => R.new_none hb
  have F : Hid (∀ W, Rep κ L (T.leaves i j x f) W → Calls Try.prog 86 #[.pointer (some ⟨L.sb j, 0, none⟩)] W _) := fun W R2 =>
    finish_no R2 (leaves_look f hx hs).2 ((blameS_live s f).2.1.trans ho) (leaves_look f hx hs).1 (by rw [leaves_len]; exact hle) (fun h => by have := h.2.2; rw [(blameS_live s f).1] at this; omega)
  have HX := Lib.hid hx
  have HS := Lib.hid hs
  have Hk := Lib.hid hkn
  obtain ⟨k, t⟩ := f
  unfold fltV at V B ⊢
  simp only [] at V hf
  have b0 : (k != 0) = true := by simpa using hf
  clear R h hx hok hlv hl hs hkn
  go_enter Try.func65, Try.ntmps65
  go_wp2_with (first | (go_at_call 74; refine (C.out _).mono ?_; rintro e w' ⟨rfl, rfl⟩) | (go_at_call 84; refine (V.out _).mono ?_; rintro e w' ⟨rfl, hb⟩; obtain ⟨hc, hfz⟩ := bcell hb; have hb1 := ((Below.refl _ _).alloc (Nat.le_refl _) _).trans (hb.mono (by simp)); have d3 := D3.out _ hb1) | (go_at_call 78; refine (I.out _ hb1).mono ?_; rintro e w2 ⟨rfl, kk, rfl⟩) | (go_at_call 85; fail))
  have hbk : Below w.heap.size w (w'.drewN kk) := hb1.trans ⟨rfl, rfl, rfl, Nat.le_refl _, fun _ _ => rfl⟩
  have hszk : w.heap.size < (w'.drewN kk).heap.size := by have := hb.size; simp at this; exact this
  have q0 : (w'.drewN kk).cell? ⟨w.heap.size, 0, none⟩ = some (.int .i64 k) := by go_simp
  have q1 : (w'.drewN kk).cell? ⟨w.heap.size, 1, none⟩ = some (.string t) := by go_simp
  refine (B.out _ hbk).mono ?_
  rintro e W ⟨⟨b, rfl, _⟩, R2, E2⟩
  have q0 := (E2.cell (p := ⟨w.heap.size, 0, none⟩) (Hk.out _ (Nat.le_refl _)) hszk).trans q0
  have q1 := (E2.cell (p := ⟨w.heap.size, 1, none⟩) (Hk.out _ (Nat.le_refl _)) hszk).trans q1
  have hsz : w.heap.size < W.heap.size := Nat.lt_of_lt_of_le hszk E2.size
  have E2 := (Ext.of_below hbk).trans E2
  clear hbk hszk hc hfz hb hb1 d3 C V I B D3
  obtain ⟨d0, _, _, _, _, d5, _⟩ := R2.scells (TreeA.blame_look HS.out ⟨k, t⟩)
  rw [(blameS_live s ⟨k, t⟩).1] at d5
  have ls := (R2.scope j _ (TreeA.blame_look HS.out ⟨k, t⟩)).lt
  have hX := R2.task i x HX.out
  have lx := hX.lt
  have fx3 := hX.frozen 3
  have fx5 := hX.frozen 5
  have fx6 := hX.frozen 6
  have c3 : W.cell? ⟨L.tb i, 3, none⟩ = some (.bool x.leaving) := hX.cell 3 rfl
  have c5 : W.cell? ⟨L.tb i, 5, none⟩ = some (.int .i64 x.flt.kind) := hX.cell 5 rfl
  have c6 : W.cell? ⟨L.tb i, 6, none⟩ = some (.string x.flt.text) := hX.cell 6 rfl
  have HR2 := Lib.hid R2
  have HE2 := Lib.hid E2
  clear R2 E2 hX
  have hEx : Hid (W.ownsRow 0 62 5 (.slice none 0 0) 0 []) := World.ownsRow_nil _ _ _ _
  go_wp2_with (at_builtin; refine wpList_push rfl (.tmp 57) (.tmp 63) 51 rfl 62 5 48 _ Try.infoEffect rfl (by omega) (by omega) Try.underlying51 (.slice none 0 0) 0 _ rfl hEx.out _ _ rfl rfl rfl (Try.effOne (scopeEff j)) (by omega) ?_; intro g cap w3 hown3 hgrow3 hat3; have hb3 : Below W.heap.size W w3 := ⟨hgrow3.os, hgrow3.tape, hgrow3.output, hgrow3.size, fun b hb => hgrow3.block b hb (by simp [Value.ownBlock])⟩; obtain ⟨hc3, hf3⟩ := bcell hb3; have hsz3 := hb3.size)
  have HR3 := Lib.hid (HR2.out.below hb3)
  have HE3 := Lib.hid (HE2.out.trans (Ext.of_below hb3))
  have hown3 := Lib.hid hown3
  have hg3 : Hid (W.heap.size ≤ g) := hat3.elim (fun h => by cases h) id
  have q0 : w3.cell? ⟨w.heap.size, 0, none⟩ = some (.int .i64 k) := by go_simp
  have q1 : w3.cell? ⟨w.heap.size, 1, none⟩ = some (.string t) := by go_simp
  have c3 : w3.cell? ⟨L.tb i, 3, none⟩ = some (.bool x.leaving) := by go_simp
  have c5 : w3.cell? ⟨L.tb i, 5, none⟩ = some (.int .i64 x.flt.kind) := by go_simp
  have c6 : w3.cell? ⟨L.tb i, 6, none⟩ = some (.string x.flt.text) := by go_simp
  have fx3 : w3.frozen? ⟨L.tb i, 3, none⟩ = false := by go_simp
  have fx5 : w3.frozen? ⟨L.tb i, 5, none⟩ = false := by go_simp
  have fx6 : w3.frozen? ⟨L.tb i, 6, none⟩ = false := by go_simp
  clear hc3 hf3 hat3 hgrow3
  go_region
  obtain ⟨R4, E4⟩ := leaving_mem HR3.out HX.out k t
  have HR4 : Hid (Rep κ L (T.leaves i j x ⟨k, t⟩) ((((w3.setCell ⟨L.tb i, 3, none⟩ (.bool true)).setCell ⟨L.tb i, 5, none⟩ (.int .i64 k)).setCell ⟨L.tb i, 6, none⟩ (.string t)).drew)) := R4.drew
  have HE4 : Hid (Ext κ κ w ((((w3.setCell ⟨L.tb i, 3, none⟩ (.bool true)).setCell ⟨L.tb i, 5, none⟩ (.int .i64 k)).setCell ⟨L.tb i, 6, none⟩ (.string t)).drew)) := HE3.out.trans (E4.drewN 1)
  have hown4 : Hid (((((w3.setCell ⟨L.tb i, 3, none⟩ (.bool true)).setCell ⟨L.tb i, 5, none⟩ (.int .i64 k)).setCell ⟨L.tb i, 6, none⟩ (.string t)).drew).ownsRow 0 62 5 (.slice (some ⟨g, 0, none⟩) (0 + 1) cap) (0 + 1) ([] ++ [.int .i64 (scopeEff j).kind, .int .i64 (scopeEff j).n, .int .i64 (scopeEff j).m, .int .i64 (scopeEff j).flt.kind, .string (scopeEff j).flt.text])) := by
    have hne : (Value.slice (some ⟨g, 0, none⟩) (0 + 1) cap).ownBlock ≠ some (L.tb i) := by have := hg3.out; simp [Value.ownBlock]; omega
    exact ownsRow_setCell_other (ownsRow_setCell_other (ownsRow_setCell_other hown3.out hne _) hne _) hne _
  clear hown3
  clear R4 E4 HR3 HE3 q0 q1 d0 d5 fx3 fx5 fx6 c3 c5 c6
  generalize ((((w3.setCell ⟨L.tb i, 3, none⟩ (.bool true)).setCell ⟨L.tb i, 5, none⟩ (.int .i64 k)).setCell ⟨L.tb i, 6, none⟩ (.string t)).drew) = W4 at HR4 HE4 hown4 ⊢
  go_wp2_with (first | (go_at_call 86; refine (F.out _ HR4.out).mono ?_; rintro e w5 ⟨rfl, kf, rfl⟩) | (at_builtin; refine wpList_extend rfl (.tmp 72) (.tmp 74) 51 rfl 62 5 48 _ Try.infoEffect rfl (by omega) (by omega) Try.underlying51 (.slice (some ⟨g, 0, none⟩) (0 + 1) cap) 1 _ rfl hown4.out (.slice none 0 0) 0 [] rfl (World.ownsRow_nil _ _ _ _) (by simp) (by omega) ?_; intro v3 w6 hown5 hgrow hat; have hown5 := Lib.hid hown5))
  obtain ⟨R6, E6, hk6, hf6⟩ := close_ext (v3 := v3) (HR4.out.drewN kf) (HE4.out.drewN kf) (fun b hb => by have hb : g = b := (by simpa [Value.ownBlock] using hb); subst hb; exact ⟨Hk.out _ (Nat.le_trans (Nat.le_of_lt hsz) hg3.out), Nat.le_trans (Nat.le_of_lt hsz) hg3.out⟩) hgrow hat
  go_ret2
  exact ⟨v3, rfl, κ, L, rfl, R6, E6, ⟨by simpa [EffA.cells] using hown5.out, hk6⟩, hf6⟩

set_option maxRecDepth 100000 in
set_option maxHeartbeats 1000000 in
theorem leave_done0 (R : Rep κ L T w) {n : Int} {i j : Nat} {x : TaskA} {s : ScopeA} {l : List Nat} (f : Flt) (h : T.run? n = some i) (hx : T.tasks[i]? = some x) (hok : okFlt f = true) (hlv : x.leaving = false) (hl : x.opn = l ++ [j + 1]) (hs : T.scopes[j]? = some s)
    (ho : s.owner = i + 1) (hle : ∀ n ∈ x.opn, n ≤ T.scopes.length) (hlive : s.live ≤ 0) (hf : f.kind = 0) :
    Calls Try.prog 65 #[.pointer (some ⟨L.t, 0, none⟩), .int .i64 n, fltV f] w (LeavePost κ L w ((T.leaves i j x f).finished j i (blameS s f) { x with leaving := true, flt := f }) [leftEff j i { x with leaving := true, flt := f } (blameS s f)]) := by
  have V := Lib.hid (fault_any f)
  rw [hok] at V
  have C : Hid (∀ o, _) := fun o => runs_some (R.alloc o) h
  have D3 : Hid (∀ W, Below w.heap.size w W → W.cell? ⟨L.tb i, 3, none⟩ = some (.bool x.leaving)) := fun W hW => (R.below hW).tcells hx |>.2.2.2.1
  have I : Hid (∀ W, Below w.heap.size w W → Calls _ _ _ W _) := fun W hW => inner_some (R.below hW) hx hl
  rw [Lay.sp_succ] at I
  rw [hlv] at D3
  have B : Hid (∀ W, Below w.heap.size w W → Calls Try.prog _ _ W _) := fun W hW => blame_any (R.below hW) hs f
  have hkn : ∀ b, w.heap.size ≤ b → κ b = none := fun b hb => R.new_none hb
  have F : Hid (∀ W, Rep κ L (T.leaves i j x f) W → Calls Try.prog 86 #[.pointer (some ⟨L.sb j, 0, none⟩)] W _) := fun W R2 =>
    finish_yes R2 (leaves_look f hx hs).2 ((blameS_live s f).2.1.trans ho) (leaves_look f hx hs).1 ⟨rfl, by simp [hl], by rw [(blameS_live s f).1]; exact hlive⟩
  have HX := Lib.hid hx
  have HS := Lib.hid hs
  have Hk := Lib.hid hkn
  obtain ⟨k, t⟩ := f
  unfold fltV at V B ⊢
  simp only [] at V hf
  subst hf
  clear R h hx hok hlv hl hs hkn
  go_enter Try.func65, Try.ntmps65
  go_wp2_with (first | (go_at_call 74; refine (C.out _).mono ?_; rintro e w' ⟨rfl, rfl⟩) | (go_at_call 84; refine (V.out _).mono ?_; rintro e w' ⟨rfl, hb⟩; obtain ⟨hc, hfz⟩ := bcell hb; have hb1 := ((Below.refl _ _).alloc (Nat.le_refl _) _).trans (hb.mono (by simp)); have d3 := D3.out _ hb1) | (go_at_call 78; refine (I.out _ hb1).mono ?_; rintro e w2 ⟨rfl, kk, rfl⟩) | (go_at_call 85; fail))
  have hbk : Below w.heap.size w (w'.drewN kk) := hb1.trans ⟨rfl, rfl, rfl, Nat.le_refl _, fun _ _ => rfl⟩
  have hszk : w.heap.size < (w'.drewN kk).heap.size := by have := hb.size; simp at this; exact this
  have q0 : (w'.drewN kk).cell? ⟨w.heap.size, 0, none⟩ = some (.int .i64 0) := by go_simp
  have q1 : (w'.drewN kk).cell? ⟨w.heap.size, 1, none⟩ = some (.string t) := by go_simp
  refine (B.out _ hbk).mono ?_
  rintro e W ⟨⟨b, rfl, _⟩, R2, E2⟩
  have q0 := (E2.cell (p := ⟨w.heap.size, 0, none⟩) (Hk.out _ (Nat.le_refl _)) hszk).trans q0
  have q1 := (E2.cell (p := ⟨w.heap.size, 1, none⟩) (Hk.out _ (Nat.le_refl _)) hszk).trans q1
  have hsz : w.heap.size < W.heap.size := Nat.lt_of_lt_of_le hszk E2.size
  have E2 := (Ext.of_below hbk).trans E2
  clear hbk hszk hc hfz hb hb1 d3 C V I B D3
  obtain ⟨d0, _, _, _, _, d5, _⟩ := R2.scells (TreeA.blame_look HS.out ⟨0, t⟩)
  rw [(blameS_live s ⟨0, t⟩).1] at d5
  have ls := (R2.scope j _ (TreeA.blame_look HS.out ⟨0, t⟩)).lt
  have hX := R2.task i x HX.out
  have lx := hX.lt
  have fx3 := hX.frozen 3
  have fx5 := hX.frozen 5
  have fx6 := hX.frozen 6
  have c3 : W.cell? ⟨L.tb i, 3, none⟩ = some (.bool x.leaving) := hX.cell 3 rfl
  have c5 : W.cell? ⟨L.tb i, 5, none⟩ = some (.int .i64 x.flt.kind) := hX.cell 5 rfl
  have c6 : W.cell? ⟨L.tb i, 6, none⟩ = some (.string x.flt.text) := hX.cell 6 rfl
  have HR2 := Lib.hid R2
  have HE2 := Lib.hid E2
  clear R2 E2 hX
  go_wp2
  go_region
  obtain ⟨R4, E4⟩ := leaving_mem HR2.out HX.out 0 t
  have HR4 : Hid (Rep κ L (T.leaves i j x ⟨0, t⟩) ((((W.setCell ⟨L.tb i, 3, none⟩ (.bool true)).setCell ⟨L.tb i, 5, none⟩ (.int .i64 0)).setCell ⟨L.tb i, 6, none⟩ (.string t)).drew)) := R4.drew
  have HE4 : Hid (Ext κ κ w ((((W.setCell ⟨L.tb i, 3, none⟩ (.bool true)).setCell ⟨L.tb i, 5, none⟩ (.int .i64 0)).setCell ⟨L.tb i, 6, none⟩ (.string t)).drew)) := HE2.out.trans (E4.drewN 1)
  clear R4 E4 HR2 HE2 q0 q1 d0 d5 fx3 fx5 fx6 c3 c5 c6
  generalize ((((W.setCell ⟨L.tb i, 3, none⟩ (.bool true)).setCell ⟨L.tb i, 5, none⟩ (.int .i64 0)).setCell ⟨L.tb i, 6, none⟩ (.string t)).drew) = W4 at HR4 HE4 ⊢
  go_wp2_with (first | (go_at_call 86; refine (F.out _ HR4.out).mono ?_; rintro e w5 ⟨v, rfl, κ', L', ht, R5, E5, O5, _⟩; have R5 := Lib.hid R5; have E5 := Lib.hid E5; have O5 := Lib.hid O5) | (at_builtin; refine wpList_extend rfl (.tmp 72) (.tmp 74) 51 rfl 62 5 48 _ Try.infoEffect rfl (by omega) (by omega) Try.underlying51 (.slice none 0 0) 0 [] rfl (World.ownsRow_nil _ _ _ _) v 1 _ rfl O5.out.1 (effs_one _) (by omega) ?_; intro v3 w6 hown5 hgrow hat; have hown5 := Lib.hid hown5))
  obtain ⟨R6, E6, hk6, hf6⟩ := close_ext (v3 := v3) R5.out (HE4.out.trans E5.out) (fun b hb => by cases hb) hgrow hat
  go_ret2
  exact ⟨v3, rfl, κ', L', ht, R6, E6, ⟨by simpa using hown5.out, hk6⟩, hf6⟩

set_option maxRecDepth 100000 in
set_option maxHeartbeats 1000000 in
theorem leave_done1 (R : Rep κ L T w) {n : Int} {i j : Nat} {x : TaskA} {s : ScopeA} {l : List Nat} (f : Flt) (h : T.run? n = some i) (hx : T.tasks[i]? = some x) (hok : okFlt f = true) (hlv : x.leaving = false) (hl : x.opn = l ++ [j + 1]) (hs : T.scopes[j]? = some s)
    (ho : s.owner = i + 1) (hle : ∀ n ∈ x.opn, n ≤ T.scopes.length) (hlive : s.live ≤ 0) (hf : f.kind ≠ 0) :
    Calls Try.prog 65 #[.pointer (some ⟨L.t, 0, none⟩), .int .i64 n, fltV f] w (LeavePost κ L w ((T.leaves i j x f).finished j i (blameS s f) { x with leaving := true, flt := f }) [leftEff j i { x with leaving := true, flt := f } (blameS s f)]) := by
  have V := Lib.hid (fault_any f)
  rw [hok] at V
  have C : Hid (∀ o, _) := fun o => runs_some (R.alloc o) h
  have D3 : Hid (∀ W, Below w.heap.size w W → W.cell? ⟨L.tb i, 3, none⟩ = some (.bool x.leaving)) := fun W hW => (R.below hW).tcells hx |>.2.2.2.1
  have I : Hid (∀ W, Below w.heap.size w W → Calls _ _ _ W _) := fun W hW => inner_some (R.below hW) hx hl
  rw [Lay.sp_succ] at I
  rw [hlv] at D3
  have B : Hid (∀ W, Below w.heap.size w W → Calls Try.prog _ _ W _) := fun W hW => blame_any (R.below hW) hs f
  have hkn : ∀ b, w.heap.size ≤ b → κ b = none := fun b hb => R.new_none hb
  have F : Hid (∀ W, Rep κ L (T.leaves i j x f) W → Calls Try.prog 86 #[.pointer (some ⟨L.sb j, 0, none⟩)] W _) := fun W R2 =>
    finish_yes R2 (leaves_look f hx hs).2 ((blameS_live s f).2.1.trans ho) (leaves_look f hx hs).1 ⟨rfl, by simp [hl], by rw [(blameS_live s f).1]; exact hlive⟩
  have HX := Lib.hid hx
  have HS := Lib.hid hs
  have Hk := Lib.hid hkn
  obtain ⟨k, t⟩ := f
  unfold fltV at V B ⊢
  simp only [] at V hf
  have b0 : (k != 0) = true := by simpa using hf
  clear R h hx hok hlv hl hs hkn
  go_enter Try.func65, Try.ntmps65
  go_wp2_with (first | (go_at_call 74; refine (C.out _).mono ?_; rintro e w' ⟨rfl, rfl⟩) | (go_at_call 84; refine (V.out _).mono ?_; rintro e w' ⟨rfl, hb⟩; obtain ⟨hc, hfz⟩ := bcell hb; have hb1 := ((Below.refl _ _).alloc (Nat.le_refl _) _).trans (hb.mono (by simp)); have d3 := D3.out _ hb1) | (go_at_call 78; refine (I.out _ hb1).mono ?_; rintro e w2 ⟨rfl, kk, rfl⟩) | (go_at_call 85; fail))
  have hbk : Below w.heap.size w (w'.drewN kk) := hb1.trans ⟨rfl, rfl, rfl, Nat.le_refl _, fun _ _ => rfl⟩
  have hszk : w.heap.size < (w'.drewN kk).heap.size := by have := hb.size; simp at this; exact this
  have q0 : (w'.drewN kk).cell? ⟨w.heap.size, 0, none⟩ = some (.int .i64 k) := by go_simp
  have q1 : (w'.drewN kk).cell? ⟨w.heap.size, 1, none⟩ = some (.string t) := by go_simp
  refine (B.out _ hbk).mono ?_
  rintro e W ⟨⟨b, rfl, _⟩, R2, E2⟩
  have q0 := (E2.cell (p := ⟨w.heap.size, 0, none⟩) (Hk.out _ (Nat.le_refl _)) hszk).trans q0
  have q1 := (E2.cell (p := ⟨w.heap.size, 1, none⟩) (Hk.out _ (Nat.le_refl _)) hszk).trans q1
  have hsz : w.heap.size < W.heap.size := Nat.lt_of_lt_of_le hszk E2.size
  have E2 := (Ext.of_below hbk).trans E2
  clear hbk hszk hc hfz hb hb1 d3 C V I B D3
  obtain ⟨d0, _, _, _, _, d5, _⟩ := R2.scells (TreeA.blame_look HS.out ⟨k, t⟩)
  rw [(blameS_live s ⟨k, t⟩).1] at d5
  have ls := (R2.scope j _ (TreeA.blame_look HS.out ⟨k, t⟩)).lt
  have hX := R2.task i x HX.out
  have lx := hX.lt
  have fx3 := hX.frozen 3
  have fx5 := hX.frozen 5
  have fx6 := hX.frozen 6
  have c3 : W.cell? ⟨L.tb i, 3, none⟩ = some (.bool x.leaving) := hX.cell 3 rfl
  have c5 : W.cell? ⟨L.tb i, 5, none⟩ = some (.int .i64 x.flt.kind) := hX.cell 5 rfl
  have c6 : W.cell? ⟨L.tb i, 6, none⟩ = some (.string x.flt.text) := hX.cell 6 rfl
  have HR2 := Lib.hid R2
  have HE2 := Lib.hid E2
  clear R2 E2 hX
  go_wp2
  go_region
  obtain ⟨R4, E4⟩ := leaving_mem HR2.out HX.out k t
  have HR4 : Hid (Rep κ L (T.leaves i j x ⟨k, t⟩) ((((W.setCell ⟨L.tb i, 3, none⟩ (.bool true)).setCell ⟨L.tb i, 5, none⟩ (.int .i64 k)).setCell ⟨L.tb i, 6, none⟩ (.string t)).drew)) := R4.drew
  have HE4 : Hid (Ext κ κ w ((((W.setCell ⟨L.tb i, 3, none⟩ (.bool true)).setCell ⟨L.tb i, 5, none⟩ (.int .i64 k)).setCell ⟨L.tb i, 6, none⟩ (.string t)).drew)) := HE2.out.trans (E4.drewN 1)
  clear R4 E4 HR2 HE2 q0 q1 d0 d5 fx3 fx5 fx6 c3 c5 c6
  generalize ((((W.setCell ⟨L.tb i, 3, none⟩ (.bool true)).setCell ⟨L.tb i, 5, none⟩ (.int .i64 k)).setCell ⟨L.tb i, 6, none⟩ (.string t)).drew) = W4 at HR4 HE4 ⊢
  go_wp2_with (first | (go_at_call 86; refine (F.out _ HR4.out).mono ?_; rintro e w5 ⟨v, rfl, κ', L', ht, R5, E5, O5, _⟩; have R5 := Lib.hid R5; have E5 := Lib.hid E5; have O5 := Lib.hid O5) | (at_builtin; refine wpList_extend rfl (.tmp 72) (.tmp 74) 51 rfl 62 5 48 _ Try.infoEffect rfl (by omega) (by omega) Try.underlying51 (.slice none 0 0) 0 [] rfl (World.ownsRow_nil _ _ _ _) v 1 _ rfl O5.out.1 (effs_one _) (by omega) ?_; intro v3 w6 hown5 hgrow hat; have hown5 := Lib.hid hown5))
  obtain ⟨R6, E6, hk6, hf6⟩ := close_ext (v3 := v3) R5.out (HE4.out.trans E5.out) (fun b hb => by cases hb) hgrow hat
  go_ret2
  exact ⟨v3, rfl, κ', L', ht, R6, E6, ⟨by simpa using hown5.out, hk6⟩, hf6⟩

end
end Go.Proofs.Ytoonkidlbnndcaa
