/-
  A call of a grove by the law's 'run': one theorem for each kind of call, and all of them as one.
-/
import Derived.Test.YtoonkidlbnndcaaGStrike
import Derived.Test.YtoonkidlbnndcaaOpAt
namespace Go.Proofs.Ytoonkidlbnndcaa
set_option linter.unusedVariables false
set_option linter.unusedSimpArgs false
open Go.RowKit

/-- What a call does: the grove, the effects, the error. -/
def GroveA.runG (G : GroveA) (kd n m : Int) (b : Bool) (f : Flt) : GroveA × List EffA × Int :=
  if kd = 0 then ((G.openG n b m).1, [], (G.openG n b m).2.2) else
  if kd = 1 then (G.on (G.tree.spawnR n).1, [], (G.tree.spawnR n).2.2) else
  if kd = 2 then G.endG n f else
  if kd = 3 then G.leaveG n f else
  if kd = 4 then (G.on (G.tree.shieldR n).1, [], (G.tree.shieldR n).2) else
  if kd = 5 then (G.on (G.tree.unveilR n).1, [], (G.tree.unveilR n).2) else
  if kd = 6 then G.failG n f else
  if kd = 7 then (G.on G.tree.rootR.1, [], G.tree.rootR.2.2) else
  if kd = 8 then G.strikeT n else
  if kd = 9 then ((G.expireG n).1, (G.expireG n).2, 0) else (G, [], 0)

theorem InvG.runG {G : GroveA} (I : InvG G) (kd n m : Int) (b : Bool) (f : Flt) : InvG (G.runG kd n m b f).1 := by
  unfold GroveA.runG
  repeat' split
  · exact I.openG n b m
  · exact I.spawnG n
  · exact I.endG n f
  · exact I.leaveG n f
  · exact I.shieldG n
  · exact I.unveilG n
  · exact I.failG n f
  · exact I.rootG
  · exact I.strikeT n
  · exact InvG.expireN _ I n
  · exact I

section
variable {K : Kap} {A : GAt} {G : GroveA} {w w' : World}

/-- What 'run' leaves. -/
def RunPost (K : Kap) (A : GAt) (w : World) (r : GroveA × List EffA × Int) (e : Ending) (w' : World) : Prop :=
  ∃ v, e = .returned (.tuple #[v, .bool (decide (r.2.2 = 0))]) ∧ ∃ K' A', A'.g = A.g ∧ GRep K' A' r.1 w' ∧ Ext K K' w w' ∧ EOwn K' w' v r.2.1 ∧ Fresh w v

theorem GDone.from {W : World} {G' : GroveA} (hW : Below w.heap.size w W) (h : GDone K A W G' w') : GDone K A w G' w' := by
  obtain ⟨K', A', h1, h2, h3⟩ := h
  exact ⟨K', A', h1, h2, (Ext.of_below hW).trans h3⟩

theorem GEff.from {W : World} {r : GroveA × List EffA × Int} {e : Ending} (hW : Below w.heap.size w W) (h : GEff K A W r e w') : GEff K A w r e w' := by
  obtain ⟨v, he, K', A', h1, h2, h3, h4, h5⟩ := h
  exact ⟨v, he, K', A', h1, h2, (Ext.of_below hW).trans h3, h4, fun b hb => Nat.le_trans hW.size (h5 b hb)⟩

set_option maxRecDepth 100000 in
set_option maxHeartbeats 4000000 in
theorem run_0 (R : GRep K A G w) (I : InvG G) (n m : Int) (b : Bool) (f : Flt) : Calls Try.prog 20 #[.pointer (some ⟨A.g, 0, none⟩), .agg #[.int .i64 0, .int .i64 n, .int .i64 m, .bool b, .int .i64 f.kind, .string f.text]] w (RunPost K A w (((G.openG n b m).1, [], (G.openG n b m).2.2))) := by
  have s0 : OpAt w (w.alloc (.cells #[.int .i64 0, .int .i64 n, .int .i64 m, .bool b, .int .i64 f.kind, .string f.text] 50)) 0 n m b f := ⟨(Below.refl _ _).alloc (Nat.le_refl _) _, Blk.new w _ _⟩
  have s := Lib.hid s0
  clear s0
  have C : Hid (∀ W, Below w.heap.size w W → Calls Try.prog 35 #[.pointer (some ⟨A.g, 0, none⟩), .int .i64 n, .bool b, .int .i64 m] W fun e w' => e = .returned (.tuple #[.int .i64 ((G.openG n b m).2.1), .int .i64 ((G.openG n b m).2.2)]) ∧ GDone K A w ((G.openG n b m).1) w') := fun W hW => (gopen (R.below hW) I n b m).mono fun e w' h => ⟨h.1, h.2.from hW⟩
  clear R I
  generalize (G.openG n b m).2.1 = ra at *
  generalize (G.openG n b m).2.2 = er at *
  generalize (G.openG n b m).1 = G' at *
  go_enter Try.func20, Try.ntmps20
  go_wp2_with (go_at_call 35; refine (C.out _ s.out.below).mono ?_; rintro e w1 ⟨rfl, h⟩; have h := Lib.hid h)
  go_returns
  obtain ⟨K', A', h1, h2, h3⟩ := h.out
  exact ⟨_, rfl, K', A', h1, h2, h3, eown_nil _ _, fun b hb => by cases hb⟩

set_option maxRecDepth 100000 in
set_option maxHeartbeats 4000000 in
theorem run_1 (R : GRep K A G w) (I : InvG G) (n m : Int) (b : Bool) (f : Flt) : Calls Try.prog 20 #[.pointer (some ⟨A.g, 0, none⟩), .agg #[.int .i64 1, .int .i64 n, .int .i64 m, .bool b, .int .i64 f.kind, .string f.text]] w (RunPost K A w ((G.on (G.tree.spawnR n).1, [], (G.tree.spawnR n).2.2))) := by
  have s0 : OpAt w (w.alloc (.cells #[.int .i64 1, .int .i64 n, .int .i64 m, .bool b, .int .i64 f.kind, .string f.text] 50)) 1 n m b f := ⟨(Below.refl _ _).alloc (Nat.le_refl _) _, Blk.new w _ _⟩
  have s := Lib.hid s0
  clear s0
  have C : Hid (∀ W, Below w.heap.size w W → Calls Try.prog 36 #[.pointer (some ⟨A.g, 0, none⟩), .int .i64 n] W fun e w' => e = .returned (.tuple #[.int .i64 ((G.tree.spawnR n).2.1), .int .i64 ((G.tree.spawnR n).2.2)]) ∧ GDone K A w (G.on (G.tree.spawnR n).1) w') := fun W hW => (gspawn (R.below hW) I n).mono fun e w' h => ⟨h.1, h.2.from hW⟩
  clear R I
  generalize (G.tree.spawnR n).2.1 = ra at *
  generalize (G.tree.spawnR n).2.2 = er at *
  generalize G.on (G.tree.spawnR n).1 = G' at *
  go_enter Try.func20, Try.ntmps20
  go_wp2_with (go_at_call 36; refine (C.out _ s.out.below).mono ?_; rintro e w1 ⟨rfl, h⟩; have h := Lib.hid h)
  go_returns
  obtain ⟨K', A', h1, h2, h3⟩ := h.out
  exact ⟨_, rfl, K', A', h1, h2, h3, eown_nil _ _, fun b hb => by cases hb⟩

set_option maxRecDepth 100000 in
set_option maxHeartbeats 4000000 in
theorem run_2 (R : GRep K A G w) (I : InvG G) (n m : Int) (b : Bool) (f : Flt) : Calls Try.prog 20 #[.pointer (some ⟨A.g, 0, none⟩), .agg #[.int .i64 2, .int .i64 n, .int .i64 m, .bool b, .int .i64 f.kind, .string f.text]] w (RunPost K A w (G.endG n f)) := by
  have s0 : OpAt w (w.alloc (.cells #[.int .i64 2, .int .i64 n, .int .i64 m, .bool b, .int .i64 f.kind, .string f.text] 50)) 2 n m b f := ⟨(Below.refl _ _).alloc (Nat.le_refl _) _, Blk.new w _ _⟩
  have s := Lib.hid s0
  clear s0
  have C : Hid (∀ W, Below w.heap.size w W → Calls Try.prog 37 #[.pointer (some ⟨A.g, 0, none⟩), .int .i64 n, .agg #[.int .i64 f.kind, .string f.text]] W (GEff K A w (G.endG n f))) := fun W hW => (gend (R.below hW) I n f).mono fun e w' h => h.from hW
  clear R I
  generalize G.endG n f = r at *
  obtain ⟨G', es, er⟩ := r
  go_enter Try.func20, Try.ntmps20
  go_wp2_with (go_at_call 37; refine (C.out _ s.out.below).mono ?_; rintro e w1 ⟨v, rfl, h⟩; have h := Lib.hid h)
  go_returns
  exact ⟨v, rfl, h.out⟩

set_option maxRecDepth 100000 in
set_option maxHeartbeats 4000000 in
theorem run_3 (R : GRep K A G w) (I : InvG G) (n m : Int) (b : Bool) (f : Flt) : Calls Try.prog 20 #[.pointer (some ⟨A.g, 0, none⟩), .agg #[.int .i64 3, .int .i64 n, .int .i64 m, .bool b, .int .i64 f.kind, .string f.text]] w (RunPost K A w (G.leaveG n f)) := by
  have s0 : OpAt w (w.alloc (.cells #[.int .i64 3, .int .i64 n, .int .i64 m, .bool b, .int .i64 f.kind, .string f.text] 50)) 3 n m b f := ⟨(Below.refl _ _).alloc (Nat.le_refl _) _, Blk.new w _ _⟩
  have s := Lib.hid s0
  clear s0
  have C : Hid (∀ W, Below w.heap.size w W → Calls Try.prog 38 #[.pointer (some ⟨A.g, 0, none⟩), .int .i64 n, .agg #[.int .i64 f.kind, .string f.text]] W (GEff K A w (G.leaveG n f))) := fun W hW => (gleave (R.below hW) I n f).mono fun e w' h => h.from hW
  clear R I
  generalize G.leaveG n f = r at *
  obtain ⟨G', es, er⟩ := r
  go_enter Try.func20, Try.ntmps20
  go_wp2_with (go_at_call 38; refine (C.out _ s.out.below).mono ?_; rintro e w1 ⟨v, rfl, h⟩; have h := Lib.hid h)
  go_returns
  exact ⟨v, rfl, h.out⟩

set_option maxRecDepth 100000 in
set_option maxHeartbeats 4000000 in
theorem run_4 (R : GRep K A G w) (I : InvG G) (n m : Int) (b : Bool) (f : Flt) : Calls Try.prog 20 #[.pointer (some ⟨A.g, 0, none⟩), .agg #[.int .i64 4, .int .i64 n, .int .i64 m, .bool b, .int .i64 f.kind, .string f.text]] w (RunPost K A w ((G.on (G.tree.shieldR n).1, [], (G.tree.shieldR n).2))) := by
  have s0 : OpAt w (w.alloc (.cells #[.int .i64 4, .int .i64 n, .int .i64 m, .bool b, .int .i64 f.kind, .string f.text] 50)) 4 n m b f := ⟨(Below.refl _ _).alloc (Nat.le_refl _) _, Blk.new w _ _⟩
  have s := Lib.hid s0
  clear s0
  have C : Hid (∀ W, Below w.heap.size w W → Calls Try.prog 24 #[.pointer (some ⟨A.g, 0, none⟩), .int .i64 n] W fun e w' => e = .returned (.int .i64 ((G.tree.shieldR n).2)) ∧ GDone K A w (G.on (G.tree.shieldR n).1) w') := fun W hW => (gshield (R.below hW) I n).mono fun e w' h => ⟨h.1, h.2.from hW⟩
  clear R I
  generalize (G.tree.shieldR n).2 = er at *
  generalize G.on (G.tree.shieldR n).1 = G' at *
  go_enter Try.func20, Try.ntmps20
  go_wp2_with (go_at_call 24; refine (C.out _ s.out.below).mono ?_; rintro e w1 ⟨rfl, h⟩; have h := Lib.hid h)
  go_returns
  obtain ⟨K', A', h1, h2, h3⟩ := h.out
  exact ⟨_, rfl, K', A', h1, h2, h3, eown_nil _ _, fun b hb => by cases hb⟩

set_option maxRecDepth 100000 in
set_option maxHeartbeats 4000000 in
theorem run_5 (R : GRep K A G w) (I : InvG G) (n m : Int) (b : Bool) (f : Flt) : Calls Try.prog 20 #[.pointer (some ⟨A.g, 0, none⟩), .agg #[.int .i64 5, .int .i64 n, .int .i64 m, .bool b, .int .i64 f.kind, .string f.text]] w (RunPost K A w ((G.on (G.tree.unveilR n).1, [], (G.tree.unveilR n).2))) := by
  have s0 : OpAt w (w.alloc (.cells #[.int .i64 5, .int .i64 n, .int .i64 m, .bool b, .int .i64 f.kind, .string f.text] 50)) 5 n m b f := ⟨(Below.refl _ _).alloc (Nat.le_refl _) _, Blk.new w _ _⟩
  have s := Lib.hid s0
  clear s0
  have C : Hid (∀ W, Below w.heap.size w W → Calls Try.prog 25 #[.pointer (some ⟨A.g, 0, none⟩), .int .i64 n] W fun e w' => e = .returned (.int .i64 ((G.tree.unveilR n).2)) ∧ GDone K A w (G.on (G.tree.unveilR n).1) w') := fun W hW => (gunveil (R.below hW) I n).mono fun e w' h => ⟨h.1, h.2.from hW⟩
  clear R I
  generalize (G.tree.unveilR n).2 = er at *
  generalize G.on (G.tree.unveilR n).1 = G' at *
  go_enter Try.func20, Try.ntmps20
  go_wp2_with (go_at_call 25; refine (C.out _ s.out.below).mono ?_; rintro e w1 ⟨rfl, h⟩; have h := Lib.hid h)
  go_returns
  obtain ⟨K', A', h1, h2, h3⟩ := h.out
  exact ⟨_, rfl, K', A', h1, h2, h3, eown_nil _ _, fun b hb => by cases hb⟩

set_option maxRecDepth 100000 in
set_option maxHeartbeats 4000000 in
theorem run_6 (R : GRep K A G w) (I : InvG G) (n m : Int) (b : Bool) (f : Flt) : Calls Try.prog 20 #[.pointer (some ⟨A.g, 0, none⟩), .agg #[.int .i64 6, .int .i64 n, .int .i64 m, .bool b, .int .i64 f.kind, .string f.text]] w (RunPost K A w (G.failG n f)) := by
  have s0 : OpAt w (w.alloc (.cells #[.int .i64 6, .int .i64 n, .int .i64 m, .bool b, .int .i64 f.kind, .string f.text] 50)) 6 n m b f := ⟨(Below.refl _ _).alloc (Nat.le_refl _) _, Blk.new w _ _⟩
  have s := Lib.hid s0
  clear s0
  have C : Hid (∀ W, Below w.heap.size w W → Calls Try.prog 39 #[.pointer (some ⟨A.g, 0, none⟩), .int .i64 n, .agg #[.int .i64 f.kind, .string f.text]] W (GEff K A w (G.failG n f))) := fun W hW => (gfail (R.below hW) I n f).mono fun e w' h => h.from hW
  clear R I
  generalize G.failG n f = r at *
  obtain ⟨G', es, er⟩ := r
  go_enter Try.func20, Try.ntmps20
  go_wp2_with (go_at_call 39; refine (C.out _ s.out.below).mono ?_; rintro e w1 ⟨v, rfl, h⟩; have h := Lib.hid h)
  go_returns
  exact ⟨v, rfl, h.out⟩

set_option maxRecDepth 100000 in
set_option maxHeartbeats 4000000 in
theorem run_7 (R : GRep K A G w) (I : InvG G) (n m : Int) (b : Bool) (f : Flt) : Calls Try.prog 20 #[.pointer (some ⟨A.g, 0, none⟩), .agg #[.int .i64 7, .int .i64 n, .int .i64 m, .bool b, .int .i64 f.kind, .string f.text]] w (RunPost K A w ((G.on G.tree.rootR.1, [], G.tree.rootR.2.2))) := by
  have s0 : OpAt w (w.alloc (.cells #[.int .i64 7, .int .i64 n, .int .i64 m, .bool b, .int .i64 f.kind, .string f.text] 50)) 7 n m b f := ⟨(Below.refl _ _).alloc (Nat.le_refl _) _, Blk.new w _ _⟩
  have s := Lib.hid s0
  clear s0
  have C : Hid (∀ W, Below w.heap.size w W → Calls Try.prog 40 #[.pointer (some ⟨A.g, 0, none⟩)] W fun e w' => e = .returned (.tuple #[.int .i64 (G.tree.rootR.2.1), .int .i64 (G.tree.rootR.2.2)]) ∧ GDone K A w (G.on G.tree.rootR.1) w') := fun W hW => (groot (R.below hW) I).mono fun e w' h => ⟨h.1, h.2.from hW⟩
  clear R I
  generalize G.tree.rootR.2.1 = ra at *
  generalize G.tree.rootR.2.2 = er at *
  generalize G.on G.tree.rootR.1 = G' at *
  go_enter Try.func20, Try.ntmps20
  go_wp2_with (go_at_call 40; refine (C.out _ s.out.below).mono ?_; rintro e w1 ⟨rfl, h⟩; have h := Lib.hid h)
  go_returns
  obtain ⟨K', A', h1, h2, h3⟩ := h.out
  exact ⟨_, rfl, K', A', h1, h2, h3, eown_nil _ _, fun b hb => by cases hb⟩

set_option maxRecDepth 100000 in
set_option maxHeartbeats 4000000 in
theorem run_8 (R : GRep K A G w) (I : InvG G) (n m : Int) (b : Bool) (f : Flt) : Calls Try.prog 20 #[.pointer (some ⟨A.g, 0, none⟩), .agg #[.int .i64 8, .int .i64 n, .int .i64 m, .bool b, .int .i64 f.kind, .string f.text]] w (RunPost K A w (G.strikeT n)) := by
  have s0 : OpAt w (w.alloc (.cells #[.int .i64 8, .int .i64 n, .int .i64 m, .bool b, .int .i64 f.kind, .string f.text] 50)) 8 n m b f := ⟨(Below.refl _ _).alloc (Nat.le_refl _) _, Blk.new w _ _⟩
  have s := Lib.hid s0
  clear s0
  have C : Hid (∀ W, Below w.heap.size w W → Calls Try.prog 30 #[.pointer (some ⟨A.g, 0, none⟩), .int .i64 n] W (GEff K A w (G.strikeT n))) := fun W hW => (gstrikeT (R.below hW) I n).mono fun e w' h => h.from hW
  clear R I
  generalize G.strikeT n = r at *
  obtain ⟨G', es, er⟩ := r
  go_enter Try.func20, Try.ntmps20
  go_wp2_with (go_at_call 30; refine (C.out _ s.out.below).mono ?_; rintro e w1 ⟨v, rfl, h⟩; have h := Lib.hid h)
  go_returns
  exact ⟨v, rfl, h.out⟩

set_option maxRecDepth 100000 in
set_option maxHeartbeats 4000000 in
theorem run_9 (R : GRep K A G w) (I : InvG G) (n m : Int) (b : Bool) (f : Flt) : Calls Try.prog 20 #[.pointer (some ⟨A.g, 0, none⟩), .agg #[.int .i64 9, .int .i64 n, .int .i64 m, .bool b, .int .i64 f.kind, .string f.text]] w (RunPost K A w (((G.expireG n).1, (G.expireG n).2, 0))) := by
  have s0 : OpAt w (w.alloc (.cells #[.int .i64 9, .int .i64 n, .int .i64 m, .bool b, .int .i64 f.kind, .string f.text] 50)) 9 n m b f := ⟨(Below.refl _ _).alloc (Nat.le_refl _) _, Blk.new w _ _⟩
  have s := Lib.hid s0
  clear s0
  have C : Hid (∀ W, Below w.heap.size w W → Calls Try.prog 27 #[.pointer (some ⟨A.g, 0, none⟩), .int .i64 n] W (GEff K A w (((G.expireG n).1, (G.expireG n).2, 0)))) := fun W hW => (gexpire (R.below hW) I n).mono fun e w' h => h.from hW
  clear R I
  generalize G.expireG n = r at *
  obtain ⟨G', es⟩ := r
  go_enter Try.func20, Try.ntmps20
  go_wp2_with (go_at_call 27; refine (C.out _ s.out.below).mono ?_; rintro e w1 ⟨v, rfl, h⟩; have h := Lib.hid h)
  go_returns
  exact ⟨v, rfl, h.out⟩

set_option maxRecDepth 100000 in
set_option maxHeartbeats 4000000 in
theorem run_none (R : GRep K A G w) (kd n m : Int) (b : Bool) (f : Flt) (h : kd < 0 ∨ 9 < kd) : Calls Try.prog 20 #[.pointer (some ⟨A.g, 0, none⟩), .agg #[.int .i64 kd, .int .i64 n, .int .i64 m, .bool b, .int .i64 f.kind, .string f.text]] w (RunPost K A w (G, [], 0)) := by
  have s0 : OpAt w (w.alloc (.cells #[.int .i64 kd, .int .i64 n, .int .i64 m, .bool b, .int .i64 f.kind, .string f.text] 50)) kd n m b f := ⟨(Below.refl _ _).alloc (Nat.le_refl _) _, Blk.new w _ _⟩
  have hP : Hid (GDone K A w G (w.alloc (.cells #[.int .i64 kd, .int .i64 n, .int .i64 m, .bool b, .int .i64 f.kind, .string f.text] 50))) := GDone.below R s0.below
  have k0 : (kd == 0) = false := by simp; omega
  have k1 : (kd == 1) = false := by simp; omega
  have k2 : (kd == 2) = false := by simp; omega
  have k3 : (kd == 3) = false := by simp; omega
  have k4 : (kd == 4) = false := by simp; omega
  have k5 : (kd == 5) = false := by simp; omega
  have k6 : (kd == 6) = false := by simp; omega
  have k7 : (kd == 7) = false := by simp; omega
  have k8 : (kd == 8) = false := by simp; omega
  have k9 : (kd == 9) = false := by simp; omega
  clear R s0 h
  go_enter Try.func20, Try.ntmps20
  go_wp2
  go_returns
  obtain ⟨K', A', h1, h2, h3⟩ := hP.out
  exact ⟨_, rfl, K', A', h1, h2, h3, eown_nil _ _, fun b hb => by cases hb⟩

theorem run_any (R : GRep K A G w) (I : InvG G) (kd n m : Int) (b : Bool) (f : Flt) : Calls Try.prog 20 #[.pointer (some ⟨A.g, 0, none⟩), .agg #[.int .i64 kd, .int .i64 n, .int .i64 m, .bool b, .int .i64 f.kind, .string f.text]] w (RunPost K A w (G.runG kd n m b f)) := by
  unfold GroveA.runG
  by_cases h0 : kd = 0
  · subst h0; rw [if_pos rfl]; exact run_0 R I n m b f
  rw [if_neg h0]
  by_cases h1 : kd = 1
  · subst h1; rw [if_pos rfl]; exact run_1 R I n m b f
  rw [if_neg h1]
  by_cases h2 : kd = 2
  · subst h2; rw [if_pos rfl]; exact run_2 R I n m b f
  rw [if_neg h2]
  by_cases h3 : kd = 3
  · subst h3; rw [if_pos rfl]; exact run_3 R I n m b f
  rw [if_neg h3]
  by_cases h4 : kd = 4
  · subst h4; rw [if_pos rfl]; exact run_4 R I n m b f
  rw [if_neg h4]
  by_cases h5 : kd = 5
  · subst h5; rw [if_pos rfl]; exact run_5 R I n m b f
  rw [if_neg h5]
  by_cases h6 : kd = 6
  · subst h6; rw [if_pos rfl]; exact run_6 R I n m b f
  rw [if_neg h6]
  by_cases h7 : kd = 7
  · subst h7; rw [if_pos rfl]; exact run_7 R I n m b f
  rw [if_neg h7]
  by_cases h8 : kd = 8
  · subst h8; rw [if_pos rfl]; exact run_8 R I n m b f
  rw [if_neg h8]
  by_cases h9 : kd = 9
  · subst h9; rw [if_pos rfl]; exact run_9 R I n m b f
  rw [if_neg h9]
  exact run_none R kd n m b f (by omega)

end
end Go.Proofs.Ytoonkidlbnndcaa
