/-
  A law's argument that is a slice of calls, read.
  The law's 'made': a grove after some calls.
-/
import Derived.Test.YtoonkidlbnndcaaOpRead
import Derived.Deep.Slices
import Derived.Test.YtoonkidlbnndcaaRun
namespace Go.Proofs.Ytoonkidlbnndcaa
set_option linter.unusedVariables false
set_option linter.unusedSimpArgs false
open Go.RowKit

/-- A slice of calls. -/
structure OpsAt (w : World) (v : Value) (ops : List OpA) : Prop where
  shape : ∃ ad cap, v = .slice ad ops.length cap ∧ ops.length ≤ cap ∧ cap ≤ maxLen ∧ (ad = none → ops = [] ∧ cap = 0)
  lie : ∀ (k : Nat) (o : OpA), ops[k]? = some o → ∃ b off cap, v = .slice (some ⟨b, off, none⟩) ops.length cap ∧ b < w.heap.size ∧
    w.cell? ⟨b, off + k * 6, none⟩ = some (.int .i64 o.kind) ∧ w.cell? ⟨b, off + k * 6 + 1, none⟩ = some (.int .i64 o.n) ∧ w.cell? ⟨b, off + k * 6 + 2, none⟩ = some (.int .i64 o.m) ∧
    w.cell? ⟨b, off + k * 6 + 3, none⟩ = some (.bool o.yes) ∧ w.cell? ⟨b, off + k * 6 + 4, none⟩ = some (.int .i64 o.flt.kind) ∧ w.cell? ⟨b, off + k * 6 + 5, none⟩ = some (.string o.flt.text)

section
variable {w w' : World} {v : Value} {ops : List OpA}

theorem OpsAt.below (h : OpsAt w v ops) (hb : Below w.heap.size w w') : OpsAt w' v ops where
  shape := h.shape
  lie k o ho := by
    obtain ⟨b, off, cap, hv, lb, h0, h1, h2, h3, h4, h5⟩ := h.lie k o ho
    have c : ∀ x, w'.cell? ⟨b, x, none⟩ = w.cell? ⟨b, x, none⟩ := fun x => hb.cell (p := ⟨b, x, none⟩) lb
    exact ⟨b, off, cap, hv, Nat.lt_of_lt_of_le lb hb.size, (c _).trans h0, (c _).trans h1, (c _).trans h2, (c _).trans h3, (c _).trans h4, (c _).trans h5⟩

end

section
variable {H : Type} {enc : TypeId × Value → H} {w : World} {spare : Nat → Bool} {held : Bool}

instance : Inhabited OpA := ⟨⟨0, 0, 0, false, Flt.none⟩⟩

theorem ops_read {fuel : Nat} {cs : List Value} {x : DataW H × List MemPlace} (h : DataW.trod enc Try.prog w 0 spare held fuel 22 cs = some x) : ∃ v ops, cs = [v] ∧ OpsAt w v ops := by
  rcases Go.Deep.open_slice Try.underlying22 h with ⟨rfl, _⟩ | ⟨a, len, cap, m, n, D, Pl, rfl, _, hl, hm, hmm, _, hx⟩
  · exact ⟨_, [], rfl, ⟨none, 0, rfl, Nat.le_refl _, by unfold maxLen; omega, fun _ => ⟨rfl, rfl⟩⟩, fun k o ho => by simp at ho⟩
  · have hml : len ≤ m := by rw [hmm]; split <;> omega
    obtain ⟨O, hO⟩ := Go.Deep.choose_lt (α := OpA) (n := len) (p := fun i o => w.cells? 0 (a.add (i * 6)) 6 = some o.cells) (fun i hi => by
      obtain ⟨cs', h1, h2⟩ := hx i (by omega)
      rw [Try.cellsOp] at h1
      obtain ⟨o, rfl⟩ := op_read h2
      exact ⟨o, h1⟩)
    refine ⟨_, (List.range len).map O, rfl, ⟨some a, cap, by simp, by simpa using hl, hm, fun e => by cases e⟩, fun k o ho => ?_⟩
    have hk : k < len := by have := (List.getElem?_eq_some_iff.1 ho).1; simpa using this
    have hok : O k = o := by
      rw [List.getElem?_map, List.getElem?_range hk] at ho
      simpa using ho
    have hc := hO k hk
    rw [hok] at hc
    obtain ⟨_, hlen, hcell⟩ := World.cells?_some hc
    have hsp : ∀ (q : Addr) (u : Value), w.cell? q = some u → q.spot = none ∧ q.block < w.heap.size := fun q u hq => by
      unfold World.cell? at hq
      cases hh : w.heap[q.block]? with
      | none => rw [hh] at hq; cases hq
      | some ob =>
        rw [hh] at hq
        refine ⟨?_, (Array.getElem?_eq_some_iff.1 hh).1⟩
        cases ob <;> simp at hq
        exact hq.1
    have g0 := hcell 0 (by omega)
    have g1 := hcell 1 (by omega)
    have g2 := hcell 2 (by omega)
    have g3 := hcell 3 (by omega)
    have g4 := hcell 4 (by omega)
    have g5 := hcell 5 (by omega)
    have ha : a.spot = none := by
      have h0 := hO 0 (by omega)
      obtain ⟨_, _, hc0⟩ := World.cells?_some h0
      have := (hsp _ _ (hc0 0 (by omega))).1
      unfold Addr.add at this
      simpa using this
    obtain ⟨b, off, sp⟩ := a
    simp only at ha
    subst ha
    have lb := (hsp _ _ g0).2
    have hadd : ∀ (q : Nat), (Addr.mk b off none).add q = ⟨b, off + q, none⟩ := fun q => by
      unfold Addr.add
      split
      · subst q; rfl
      · rfl
    have hadd2 : ∀ (o q : Nat), (Addr.mk b o none).add q = ⟨b, o + q, none⟩ := fun o q => by
      unfold Addr.add
      split
      · subst q; rfl
      · rfl
    simp only [hadd2, Nat.add_zero] at g0 g1 g2 g3 g4 g5 lb
    refine ⟨b, off, cap, by simp, lb, ?_, g1, g2, g3, g4, g5⟩
    exact g0

end
end Go.Proofs.Ytoonkidlbnndcaa

namespace Go.Proofs.Ytoonkidlbnndcaa
set_option linter.unusedVariables false
set_option linter.unusedSimpArgs false
open Go.RowKit

def GroveA.runO (G : GroveA) (o : OpA) : GroveA × List EffA × Int := G.runG o.kind o.n o.m o.yes o.flt
def GroveA.plays (G : GroveA) : List OpA → GroveA
  | [] => G
  | o :: l => GroveA.plays (G.runO o).1 l

theorem GroveA.plays_append (G : GroveA) : ∀ (l l' : List OpA), G.plays (l ++ l') = (G.plays l).plays l'
  | [], _ => rfl
  | o :: l, l' => by
    rw [List.cons_append, GroveA.plays, GroveA.plays]
    exact GroveA.plays_append _ l l'

theorem InvG.plays : ∀ (l : List OpA) {G : GroveA}, InvG G → InvG (G.plays l)
  | [], _, I => I
  | o :: l, _, I => InvG.plays l (I.runG o.kind o.n o.m o.yes o.flt)

section
variable {w w' : World} {v : Value} {ops : List OpA}

/-- A grove in new memory. -/
def New (w : World) (g : Nat) (G : GroveA) (W : World) : Prop := ∃ K A, A.g = g ∧ GRep K A G W ∧ Ext Kap.nil K w W

theorem New.below {g : Nat} {G : GroveA} {W W' : World} (h : New w g G W) (hb : Below W.heap.size W W') : New w g G W' := by
  obtain ⟨K, A, h1, R, E⟩ := h
  exact ⟨K, A, h1, R.below hb, E.trans (Ext.of_below hb)⟩

theorem New.old {g : Nat} {G : GroveA} {W : World} (h : New w g G W) : Below w.heap.size w W := by
  obtain ⟨K, A, _, _, E⟩ := h
  exact E.nil_below

theorem run_new {g : Nat} {G : GroveA} {W : World} (h : New w g G W) (I : InvG G) (o : OpA) :
    Calls Try.prog 20 #[.pointer (some ⟨g, 0, none⟩), .agg #[.int .i64 o.kind, .int .i64 o.n, .int .i64 o.m, .bool o.yes, .int .i64 o.flt.kind, .string o.flt.text]] W fun e W' => (∃ v, e = .returned v) ∧ New w g (G.runO o).1 W' := by
  obtain ⟨K, A, rfl, R, E⟩ := h
  refine (run_any R I o.kind o.n o.m o.yes o.flt).mono ?_
  rintro e W' ⟨v, he, K', A', h1, h2, h3, _, _⟩
  exact ⟨⟨_, he⟩, K', A', h1, h2, E.trans h3⟩

set_option maxRecDepth 100000 in
set_option maxHeartbeats 4000000 in
theorem made_bad (n : Int) (h : n < 1 ∨ 64 < n) (w : World) (v : Value) : Calls Try.prog 9 #[.int .i64 n, v] w fun e w' => e = .returned (.pointer none) ∧ Below w.heap.size w w' := by
  have C := Lib.hid (gnew_bad n w h)
  clear h
  go_enter Try.func9, Try.ntmps9
  go_wp2_with (go_at_call 19; refine C.out.mono ?_; rintro e w1 ⟨rfl, hb⟩; have hb := Lib.hid hb)
  go_returns
  exact ⟨rfl, hb.out⟩

set_option maxRecDepth 100000 in
set_option maxHeartbeats 4000000 in
theorem made_ok (n : Nat) (h1 : 1 ≤ n) (h2 : n ≤ 64) (h : OpsAt w v ops) : Calls Try.prog 9 #[.int .i64 n, v] w fun e w' => ∃ g, e = .returned (.pointer (some ⟨g, 0, none⟩)) ∧ New w g ((⟨roots n, [], [], []⟩ : GroveA).plays (ops.take 60)) w' := by
  have C := Lib.hid (gnew_ok n w h1 h2)
  have I0 : InvG ⟨roots n, [], [], []⟩ := inv_new h2
  obtain ⟨ad, cap, rfl, hc, hm, h0⟩ := h.shape
  have HO := Lib.hid h
  have HI : Hid (∀ l, InvG ((⟨roots n, [], [], []⟩ : GroveA).plays l)) := fun l => I0.plays l
  unfold maxLen at hm
  clear h h1 h2 I0
  generalize (⟨roots n, [], [], []⟩ : GroveA) = G0 at *
  obtain ⟨m, hmin⟩ : ∃ m, m = min ops.length 60 := ⟨_, rfl⟩
  have hml : m ≤ ops.length := by omega
  have hm60 : m ≤ 60 := by omega
  have htk : ops.take 60 = ops.take m := by
    rw [hmin]
    rcases Nat.le_total ops.length 60 with h | h
    · rw [Nat.min_eq_left h, List.take_of_length_le h, List.take_length]
    · rw [Nat.min_eq_right h]
  have Htk := Lib.hid htk
  have hmi : (min (ops.length : Int) 60) = (m : Int) := by omega
  clear htk
  generalize hl : ops.length = len at *
  have Hl := Lib.hid hl
  have Hmin := Lib.hid hmin
  clear hl hmin
  have hcase : ((len : Int) ≤ 60 ∧ m = len) ∨ (¬ (len : Int) ≤ 60 ∧ m = 60) := by omega
  clear hmi Hmin
  obtain ⟨q, hq⟩ : ∃ q, q = m := ⟨_, rfl⟩
  rw [← hq] at Htk
  have Hq := Lib.hid hq
  clear hq
  rcases hcase with ⟨hc1, hc2⟩ | ⟨hc1, hc2⟩
  all_goals
    rw [hc2] at Hq
    clear hc2 hml hm60
    go_enter Try.func9, Try.ntmps9
    go_wp2_with (go_at_call 19; refine C.out.mono ?_; rintro e w1 ⟨K, A, rfl, R, E⟩; have R := Lib.hid R; have E := Lib.hid E)
    go_loopw [22] (fun i wr => ∃ k : Nat, k ≤ q ∧ i = .int .i64 (k : Int) ∧ Hid (New w A.g (G0.plays (ops.take k)) wr)) (fun i _ => q - (intOf i).toNat)
    case atStart => exact ⟨0, Nat.zero_le _, rfl, K, A, rfl, R.out, E.out⟩
    case round =>
      obtain ⟨k, hk, rfl, HN⟩ := hrel
      by_cases hlt : k < q
      · have hlt2 := hlt
        rw [Hq.out] at hlt2
        have hkl : k < ops.length := by rw [Hl.out]; omega
        obtain ⟨o, ho⟩ : ∃ o, ops[k]? = some o := ⟨_, List.getElem?_eq_getElem hkl⟩
        obtain ⟨b, off, cap2, hv, lb, k0, k1, k2, k3, k4, k5⟩ := (HO.out.below HN.out.old).lie k o ho
        injection hv with q1 q2 q3
        subst q1 q3
        have Hpl : Hid (G0.plays (ops.take (k + 1)) = ((G0.plays (ops.take k)).runO o).1) := by
          show _ = _
          rw [List.take_succ_eq_append_getElem hkl, GroveA.plays_append]
          rw [List.getElem?_eq_getElem hkl] at ho
          rw [Option.some.inj ho]
          rfl
        have CR : Hid (∀ W, Below wr.heap.size wr W → Calls _ _ _ W _) := fun W hW => run_new (HN.out.below hW) (HI.out (ops.take k)) o
        have hb0 : Hid (∀ ob, Below wr.heap.size wr (wr.alloc ob)) := fun ob => (Below.refl _ _).alloc (Nat.le_refl _) ob
        clear ho q2 hkl
        go_wp2_with (go_at_call 20; refine (CR.out _ (hb0.out _)).mono ?_; rintro e w2 ⟨⟨rv, rfl⟩, hN2⟩; have hN2 := Lib.hid hN2)
        go_roundw
        case rel => exact ⟨k + 1, by omega, by go_num, by rw [Hpl.out]; exact hN2⟩
        case measure => simp [intOf]; omega
      · obtain rfl : k = q := by omega
        have HF : Hid (New w A.g (G0.plays (ops.take 60)) wr) := by
          show New _ _ _ _
          rw [Htk.out]
          exact HN.out
        have hlt2 := hlt
        rw [Hq.out] at hlt2
        have hik := Hq.out
        clear HN
        rw [hik]
        clear hik
        go_wp2
        go_returns
        exact ⟨_, rfl, HF.out⟩

end
end Go.Proofs.Ytoonkidlbnndcaa
