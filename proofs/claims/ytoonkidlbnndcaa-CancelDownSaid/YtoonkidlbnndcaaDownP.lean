/-
  CancelDown: the walk.
  CancelDown: if a task is pending, and the last of what it has opened is a scope, all tasks below that scope that have no shield before it are pending.
-/
import Derived.Test.YtoonkidlbnndcaaFinds
import Derived.Test.YtoonkidlbnndcaaGWraps
import Derived.Test.YtoonkidlbnndcaaDown0
import Derived.Test.YtoonkidlbnndcaaMade
namespace Go.Proofs.Ytoonkidlbnndcaa
set_option linter.unusedVariables false
set_option linter.unusedSimpArgs false
open Go.RowKit

theorem pending_runs {G : GroveA} {m : Nat} (h : G.pending (m : Int) = true) : ∃ (i : Nat) (x : TaskA), m = i + 1 ∧ G.tree.run? (m : Int) = some i ∧ G.tree.tasks[i]? = some x ∧ x.ended = false := by
  cases hr : G.tree.run? (m : Int) with
  | none =>
    unfold GroveA.pending TreeA.chain at h
    rw [hr] at h
    simp [pendL] at h
  | some i =>
    obtain ⟨h1, x, h2, h3⟩ := TreeA.run?_some hr
    exact ⟨i, x, by omega, rfl, h2, by simpa using h3⟩

section
variable {K : Kap} {A : GAt} {G : GroveA} {w w' : World}

/-- What the law asks of one task that is pending, of one below. -/
theorem down_one (I : InvG G) {i j : Nat} {x : TaskA} {l : List Nat} (hx : G.tree.tasks[i]? = some x) (he : x.ended = false) (hl : x.opn = l ++ [j + 1]) (hp : G.pending ((i : Int) + 1) = true)
    {f m : Nat} (hm : m ∈ belowN G.tree f j) :
    ∃ at_ : Nat, at_ ≤ (G.tree.chain (m : Int)).length ∧ posOf (isLink (2, ((j + 1 : Nat) : Int))) (G.tree.chain (m : Int)) = (at_ : Int) ∧ (((G.tree.chain (m : Int)).take at_).any isShield = false → G.pending (m : Int) = true) := by
  obtain ⟨pre, rest, h1, h2, h3⟩ := down_law I hx he hl hp hm
  refine ⟨pre.length, by rw [h1]; simp, ?_, fun h4 => ?_⟩
  · refine posOf_at (k := pre.length) (p := lnk (j + 1)) (fun a q ha hq => ?_) (by rw [h1]; simp) (by unfold isLink lnk lk; simp)
    rw [h1, List.getElem?_append_left ha] at hq
    have hqm := List.mem_of_getElem? hq
    have hne := h2 q hqm
    unfold isLink
    simp only [decide_eq_false_iff_not]
    rintro ⟨e1, e2⟩
    refine hne (Prod.ext ?_ ?_)
    · rw [e1]; rfl
    · show q.2 = j + 1
      simp at e2
      omega
  · rw [h1] at h4
    simp only [List.take_left'] at h4
    refine h3 fun p hp' e => ?_
    rw [List.any_eq_false] at h4
    have := h4 p hp'
    unfold isShield at this
    simp [e] at this

/-- The task's state in its block, the last of its links in its row. -/
structure RdD (B b t : Nat) (v : Value) (z : Nat) (W : World) : Prop where
  lB : B < W.heap.size
  lb : b < W.heap.size
  c5 : W.cell? ⟨B, 5, none⟩ = some v
  k0 : W.cell? ⟨b, t * 2, none⟩ = some (.int .i64 2)
  k1 : W.cell? ⟨b, t * 2 + 1, none⟩ = some (.int .i64 ((z : Int) + 1))

theorem RdD.below {B b t : Nat} {v : Value} {z : Nat} {W W' : World} (h : RdD B b t v z W) (hb : Below W.heap.size W W') : RdD B b t v z W' :=
  ⟨Nat.lt_of_lt_of_le h.lB hb.size, Nat.lt_of_lt_of_le h.lb hb.size, (hb.cell (p := ⟨B, 5, none⟩) h.lB).trans h.c5, (hb.cell (p := ⟨b, t * 2, none⟩) h.lb).trans h.k0, (hb.cell (p := ⟨b, t * 2 + 1, none⟩) h.lb).trans h.k1⟩

theorem RdD.new {b t : Nat} {z : Nat} {W : World} (lb : b < W.heap.size) (k0 : W.cell? ⟨b, t * 2, none⟩ = some (.int .i64 2)) (k1 : W.cell? ⟨b, t * 2 + 1, none⟩ = some (.int .i64 ((z : Int) + 1))) {c0 c1 c2 c3 c4 v : Value} (o : Obj) (h : Blk (W.alloc o) W.heap.size 32 #[c0, c1, c2, c3, c4, v]) : RdD W.heap.size b t v z (W.alloc o) := by
  have hb := (Below.refl W.heap.size W).alloc (Nat.le_refl _) o
  exact ⟨by simp, Nat.lt_of_lt_of_le lb hb.size, h.cell 5 rfl, (hb.cell (p := ⟨b, t * 2, none⟩) lb).trans k0, (hb.cell (p := ⟨b, t * 2 + 1, none⟩) lb).trans k1⟩

theorem link_last {w : World} {ad : Option Addr} {m cap : Nat} {l : List Nat} {z : Nat} (h : LinksIn w (.slice ad m cap) ((l ++ [z]).map lnk)) : m = l.length + 1 ∧ m ≤ cap ∧ cap ≤ 9223372036854775807 ∧ ∃ b, ad = some ⟨b, 0, none⟩ ∧ b < w.heap.size ∧ w.cell? ⟨b, l.length * 2, none⟩ = some (.int .i64 (lk z)) ∧ w.cell? ⟨b, l.length * 2 + 1, none⟩ = some (.int .i64 (z : Int)) := by
  obtain ⟨ad', cap', h1, h2, h3, h4⟩ := h
  injection h1 with q1 q2 q3
  subst q1 q3
  have hm : m = l.length + 1 := by rw [q2]; simp
  refine ⟨hm, by rw [q2]; exact h2, h3, ?_⟩
  obtain ⟨b, e, lb, c0, c1⟩ := h4 l.length (lnk z) (by simp)
  exact ⟨b, e, lb, c0, c1⟩

set_option maxRecDepth 100000 in
set_option maxHeartbeats 8000000 in
theorem down_bad (n : Int) (h : n < 1 ∨ 64 < n) (w : World) (v : Value) : Calls Try.prog 3 #[.int .i64 n, v] w fun e w' => e = .returned (.bool true) ∧ Below w.heap.size w w' := by
  have C := Lib.hid (made_bad n h w v)
  clear h
  go_enter Try.func3, Try.ntmps3
  go_wp2_with (first | (go_at_call 9; refine C.out.mono ?_; rintro e w1 ⟨rfl, hb⟩; have hb := Lib.hid hb) | (go_at_call 10; refine (gawake _).mono ?_; rintro e w2 ⟨rfl, hb2⟩; have hb2 := Lib.hid hb2))
  go_returns
  exact ⟨rfl, hb.out.trans (hb2.out.mono hb.out.size)⟩

set_option maxRecDepth 100000 in
set_option maxHeartbeats 8000000 in
theorem down_ok {ops : List OpA} {v : Value} (n : Nat) (h1 : 1 ≤ n) (h2 : n ≤ 64) (h : OpsAt w v ops) : Calls Try.prog 3 #[.int .i64 n, v] w fun e w' => e = .returned (.bool true) ∧ Below w.heap.size w w' := by
  have C := Lib.hid (made_ok n h1 h2 h)
  have I0 : InvG ⟨roots n, [], [], []⟩ := inv_new h2
  have I : Hid (InvG ((⟨roots n, [], [], []⟩ : GroveA).plays (ops.take 60))) := InvG.plays _ I0
  clear I0 h h1 h2
  generalize (⟨roots n, [], [], []⟩ : GroveA).plays (ops.take 60) = G at *
  have CA : Hid (∀ W, Calls Try.prog 10 #[] W fun e w' => e = .returned (.bool true) ∧ Below W.heap.size W w') := fun W => gawake W
  go_enter Try.func3, Try.ntmps3
  go_wp2_with (first | (go_at_call 9; refine C.out.mono ?_; rintro e w1 ⟨g, rfl, K, A, rfl, R, E⟩; have CP := Lib.hid (gpendings R I.out.inv.fit); have R := Lib.hid R; have E := Lib.hid E) | (go_at_call 11; refine CP.out.mono ?_; rintro e w4 ⟨v4, rfl, hv4⟩; obtain ⟨ad4, cap4, rfl⟩ := owns_shape hv4.1; have hv4 := Lib.hid hv4))
  have HN : Hid (IntsIn w4 (.slice ad4 (G.pendU 64).length cap4) (G.pendU 64)) := IntsIn.of_owns hv4.out.1
  have hml := G.pendU_len 64
  have R4 : GRep K A G w4 := R.out.below hv4.out.2.2
  have E4 : Below w.heap.size w w4 := E.out.nil_below.trans (hv4.out.2.2.mono E.out.size)
  have CT : Hid (∀ (W : World) (i : Nat) (x : TaskA), Below w4.heap.size w4 W → G.tree.tasks[i]? = some x → Calls _ _ _ W _) := fun W i x hW hx => gtask (R4.below hW) I.out.inv hx
  have CB : Hid (∀ (W : World) (j : Nat), Below w4.heap.size w4 W → j < G.tree.scopes.length → Calls Try.prog 13 #[.pointer (some ⟨A.g, 0, none⟩), .int .i64 ((j : Int) + 1)] W fun e w' => ∃ v, e = .returned (.tuple #[v, .int .i64 0]) ∧
      IntsIn w' v (belowN G.tree (G.tree.scopes.length + 1) j) ∧ Fresh W v ∧ Below W.heap.size W w') := fun W j hW hj => gbelow (R4.below hW) I.out.inv.fit (by unfold TreeA.scope?; rw [if_pos (by omega)]; congr 1)
  have CC : Hid (∀ (W : World) (n : Int), Below w4.heap.size w4 W → Calls _ _ _ W _) := fun W n hW => gchain (R4.below hW) I.out.inv.fit n
  have CG : Hid (∀ (W : World) (n : Int), Below w4.heap.size w4 W → Calls _ _ _ W _) := fun W n hW => gpending (R4.below hW) I.out.inv.fit n
  have HE := Lib.hid E4
  clear C CP R E hv4 R4 E4
  generalize hm : (G.pendU 64).length = m at *
  have Hm := Lib.hid hm
  clear hm
  go_loopw [27] (fun i wr => ∃ k : Nat, k ≤ m ∧ i = .int .i64 (k : Int) ∧ Hid (Below w4.heap.size w4 wr)) (fun i _ => m - (intOf i).toNat)
  case atStart => exact ⟨0, Nat.zero_le _, rfl, Below.refl _ _⟩
  case round =>
    obtain ⟨k, hk, rfl, HB⟩ := hrel
    by_cases hlt : k < m
    · obtain ⟨q, hq⟩ : ∃ q, (G.pendU 64)[k]? = some q := ⟨_, List.getElem?_eq_getElem (by rw [Hm.out]; exact hlt)⟩
      have hqp := (GroveA.mem_pendU.1 (List.mem_of_getElem? hq)).2.2
      obtain ⟨i, x, rfl, _, hx, he⟩ := pending_runs hqp
      have hN := HN.out
      obtain ⟨ad', cap', e1, hc1, hc2, e4⟩ := hN
      injection e1 with q1 q2 q3
      subst q1 q3
      obtain ⟨bb, rfl, lb, c0⟩ := e4 k _ hq
      have s0 : wr.cell? ⟨bb, k, none⟩ = some (.int .i64 ((i : Int) + 1)) := (HB.out.cell (p := ⟨bb, k, none⟩) lb).trans (by rw [c0]; simp)
      have lb' : bb < wr.heap.size := Nat.lt_of_lt_of_le lb HB.out.size
      have C1 := Lib.hid (CT.out wr i x HB.out hx)
      have hqp' : G.pending ((i : Int) + 1) = true := by simpa using hqp
      have Hx := Lib.hid hx
      have He := Lib.hid he
      have Hqp := Lib.hid hqp'
      have Hin : Hid (∀ q ∈ x.opn, q ≤ G.tree.scopes.length) := I.out.inv.opnLe hx
      clear hq hqp hqp' hx he e4 c0 q2 hc1
      rcases List.eq_nil_or_concat x.opn with hop | ⟨l, z, hop⟩
      · go_wp2_with (go_at_call 12; refine C1.out.mono ?_; rintro e w5 ⟨v5, rfl, hL5, hb5⟩; rw [hop] at hL5; obtain ⟨ad5, cap5, rfl, _, _, _⟩ := hL5; have hb5 := Lib.hid hb5)
        have HBn : Hid (Below w4.heap.size w4 (w5.alloc (.cells #[.int .i64 (x.inn : Int), .bool x.ended, .bool x.leaving, .int .i64 (toldFlt x).kind, .string (toldFlt x).text, .slice ad5 0 cap5] 32))) := (HB.out.trans (hb5.out.mono HB.out.size)).alloc (Nat.le_trans HB.out.size hb5.out.size) _
        go_roundw
        case rel => exact ⟨k + 1, by omega, by go_num, HBn.out⟩
        case measure => simp [intOf]; omega
      · rw [List.concat_eq_append] at hop
        have ARM : Hid (∀ (W : World) (v5 : Value), LinksIn W v5 (x.opn.map lnk) → ∃ ad cap b, v5 = .slice ad (l.length + 1) cap ∧ l.length + 1 ≤ cap ∧ cap ≤ 9223372036854775807 ∧ ad = some ⟨b, 0, none⟩ ∧ b < W.heap.size ∧ W.cell? ⟨b, l.length * 2, none⟩ = some (.int .i64 (lk z)) ∧ W.cell? ⟨b, l.length * 2 + 1, none⟩ = some (.int .i64 (z : Int))) := by
          intro W v5 hL
          obtain ⟨ad, cap, h1, _⟩ := id hL
          subst h1
          rw [hop] at hL
          obtain ⟨h1, h2, h3, b, h4, h5, h6, h7⟩ := link_last hL
          rw [hop, h1] at *
          exact ⟨ad, cap, b, by simp, h2, h3, h4, h5, h6, h7⟩
        have hll : l.length ≤ 300 := by
          have := I.out.inv.opnLen Hx.out
          rw [hop] at this
          simp at this
          omega
        cases z with
        | zero =>
          have hlk : lk 0 = 3 := rfl
          rw [hlk] at ARM
          clear hlk hop
          generalize l.length = t at *
          go_wp2_with (go_at_call 12; refine C1.out.mono ?_; rintro e w5 ⟨v5, rfl, hL5, hb5⟩; obtain ⟨ad5, cap5, b5, rfl, n5, m5, rfl, lb5, k0, k1⟩ := ARM.out _ _ hL5; have hb5 := Lib.hid hb5; clear hL5)
          have HBn : Hid (∀ o, Below w4.heap.size w4 (w5.alloc o)) := fun o => (HB.out.trans (hb5.out.mono HB.out.size)).alloc (Nat.le_trans HB.out.size hb5.out.size) o
          go_roundw
          case rel => exact ⟨k + 1, by omega, by go_num, HBn.out _⟩
          case measure => simp [intOf]; omega
        | succ j =>
          have hlk : lk (j + 1) = 2 := rfl
          rw [hlk] at ARM
          have hz : (((j + 1 : Nat)) : Int) = (j : Int) + 1 := by omega
          rw [hz] at ARM
          have hjl : j < G.tree.scopes.length := by
            have := Hin.out (j + 1) (by rw [hop]; simp)
            omega
          have LAW : Hid (∀ m, m ∈ belowN G.tree (G.tree.scopes.length + 1) j → ∃ at_ : Nat, at_ ≤ (G.tree.chain (m : Int)).length ∧ posOf (isLink (2, ((j + 1 : Nat) : Int))) (G.tree.chain (m : Int)) = (at_ : Int) ∧ (((G.tree.chain (m : Int)).take at_).any isShield = false → G.pending (m : Int) = true)) :=
            fun m hm => down_one I.out Hx.out He.out hop Hqp.out hm
          have CB1 := Lib.hid (fun W hW => CB.out W j hW hjl)
          clear hlk hop hz hjl
          generalize l.length = t at *
          have HRDn : Hid (∀ (W : World) (b : Nat) (v : Value), b < W.heap.size → W.cell? ⟨b, t * 2, none⟩ = some (.int .i64 2) → W.cell? ⟨b, t * 2 + 1, none⟩ = some (.int .i64 ((j : Int) + 1)) →
              RdD W.heap.size b t v j (W.alloc (.cells #[.int .i64 (x.inn : Int), .bool x.ended, .bool x.leaving, .int .i64 (toldFlt x).kind, .string (toldFlt x).text, v] 32))) := by
            intro W b v lb k0 k1
            exact RdD.new lb k0 k1 _ (Blk.new W 32 #[.int .i64 (x.inn : Int), .bool x.ended, .bool x.leaving, .int .i64 (toldFlt x).kind, .string (toldFlt x).text, v])
          generalize belowN G.tree (G.tree.scopes.length + 1) j = bl at *
          go_wp2_with (first | (go_at_call 12; refine C1.out.mono ?_; rintro e w5 ⟨v5, rfl, hL5, hb5⟩; obtain ⟨ad5, cap5, b5, rfl, n5, m5, rfl, lb5, k0, k1⟩ := ARM.out _ _ hL5; have HBn : Hid (∀ o, Below w4.heap.size w4 (w5.alloc o)) := (fun o => (HB.out.trans (hb5.mono HB.out.size)).alloc (Nat.le_trans HB.out.size hb5.size) o); have HRD := Lib.hid (HRDn.out w5 b5 (.slice (some ⟨b5, 0, none⟩) (t + 1) cap5) lb5 k0 k1); clear hL5 hb5) | (go_at_call 13; refine (CB1.out _ (HBn.out _)).mono ?_; rintro e w7 ⟨v7, rfl, hN7, _, hb7⟩; obtain ⟨ad7, cap7, rfl, hc7, hm7, _⟩ := id hN7; have hN7 := Lib.hid hN7; have hb7 := Lib.hid hb7))
          have HR7 := Lib.hid (HRD.out.below hb7.out)
          have HB7 : Hid (Below w4.heap.size w4 w7) := (HBn.out _).trans (hb7.out.mono (HBn.out _).size)
          clear k0 k1
          generalize w5.heap.size = B5 at *
          generalize hn7 : bl.length = n7 at *
          have Hn7 := Lib.hid hn7
          clear hn7
          go_loopw [67] (fun i wr => ∃ r : Nat, r ≤ n7 ∧ i = .int .i64 (r : Int) ∧ Hid (Below w7.heap.size w7 wr)) (fun i _ => n7 - (intOf i).toNat)
          case atStart => exact ⟨0, Nat.zero_le _, rfl, Below.refl _ _⟩
          case round =>
            obtain ⟨r, hr, rfl, HB2⟩ := hrel
            have HBw : Hid (Below w4.heap.size w4 wr) := HB7.out.trans (HB2.out.mono HB7.out.size)
            by_cases hrn : r < n7
            · obtain ⟨mm, hmm⟩ : ∃ mm, bl[r]? = some mm := ⟨_, List.getElem?_eq_getElem (by rw [Hn7.out]; exact hrn)⟩
              obtain ⟨ad8, cap8, f1, f2, f3, f4⟩ := hN7.out
              injection f1 with q1 q2 q3
              subst q1 q3
              obtain ⟨b7, rfl, lb7, d0⟩ := f4 r mm hmm
              have t0 := (HB2.out.cell (p := ⟨b7, r, none⟩) lb7).trans d0
              have lb7' := Nat.lt_of_lt_of_le lb7 HB2.out.size
              obtain ⟨at_, hat, hpos, hlaw⟩ := LAW.out mm (List.mem_of_getElem? hmm)
              have C3 := Lib.hid (CC.out wr (mm : Int) HBw.out)
              have hlen := (I.out.inv.fit.chain (mm : Int)).1
              have C5 : Hid (∀ W, Below w4.heap.size w4 W → Calls _ _ _ W _) := fun W hW => CG.out W (mm : Int) hW
              generalize (if (G.tree.run? (mm : Int)).isSome then (0 : Int) else 6) = er at *
              have C4 : Hid (∀ (W : World) (v : Value), LinksIn W v (G.tree.chain (mm : Int)) → Calls Try.prog 15 #[v, .agg #[.int .i64 2, .int .i64 ((j : Int) + 1)]] W fun e w' => e = .returned (.int .i64 (at_ : Int)) ∧ Below W.heap.size W w') := fun W v h => by
                have h2 := ixlink h (by omega) 2 (((j + 1 : Nat)) : Int)
                rw [hpos] at h2
                exact h2
              have C6 : Hid (∀ (W : World) (ad : Option Addr) (n cap : Nat), LinksIn W (.slice ad n cap) (G.tree.chain (mm : Int)) → Calls Try.prog 16 #[.slice ad at_ cap, .func (.func 17) #[] #[]] W fun e w' => e = .returned (.bool (((G.tree.chain (mm : Int)).take at_).any isShield)) ∧ Below W.heap.size W w') := fun W ad n cap h => has_down (h.take hat) (by simp; omega)
              have HRr := Lib.hid (HR7.out.below HB2.out)
              have hatl : at_ ≤ 100000 := Nat.le_trans hat hlen
              clear d0 f4 hmm hpos q2 f2 hlen
              generalize hch : G.tree.chain (mm : Int) = ch at *
              have Hch := Lib.hid hch
              clear hch
              have Hat := Lib.hid hat
              clear hat
              cases han : (ch.take at_).any isShield with
              | true =>
                rw [han] at C6
                clear han hlaw
                go_wp2_with (first | (go_at_call 14; refine C3.out.mono ?_; rintro e w8 ⟨v8, rfl, hL8, _, hb8⟩; obtain ⟨ad8, cap8, rfl, hc8, hm8, _⟩ := id hL8; have ac8 := Nat.le_trans Hat.out hc8; obtain ⟨R1, R2, R3, R4, R5⟩ := HRr.out.below hb8; have I8 := Lib.hid (C4.out _ _ hL8); have hL8 := Lib.hid hL8; have hb8 := Lib.hid hb8) | (go_at_call 15; refine I8.out.mono ?_; rintro e w9 ⟨rfl, hb9⟩; have I9 := Lib.hid (C6.out _ _ _ _ (hL8.out.below hb9)); have hb9 := Lib.hid hb9) | (go_at_call 16; refine I9.out.mono ?_; rintro e w10 ⟨rfl, hb10⟩; have hb10 := Lib.hid hb10))
                have HBf : Hid (Below w7.heap.size w7 w10) := ((HB2.out.trans (hb8.out.mono HB2.out.size)).trans (hb9.out.mono (Nat.le_trans HB2.out.size hb8.out.size))).trans (hb10.out.mono (Nat.le_trans (Nat.le_trans HB2.out.size hb8.out.size) hb9.out.size))
                go_roundw
                case rel => exact ⟨r + 1, by omega, by go_num, HBf.out⟩
                case measure => simp [intOf]; omega
              | false =>
                rw [han] at C6
                have hpe := hlaw han
                clear han hlaw
                go_wp2_with (first | (go_at_call 14; refine C3.out.mono ?_; rintro e w8 ⟨v8, rfl, hL8, _, hb8⟩; obtain ⟨ad8, cap8, rfl, hc8, hm8, _⟩ := id hL8; have ac8 := Nat.le_trans Hat.out hc8; obtain ⟨R1, R2, R3, R4, R5⟩ := HRr.out.below hb8; have I8 := Lib.hid (C4.out _ _ hL8); have hL8 := Lib.hid hL8; have hb8 := Lib.hid hb8) | (go_at_call 15; refine I8.out.mono ?_; rintro e w9 ⟨rfl, hb9⟩; have I9 := Lib.hid (C6.out _ _ _ _ (hL8.out.below hb9)); have hb9 := Lib.hid hb9) | (go_at_call 16; refine I9.out.mono ?_; rintro e w10 ⟨rfl, hb10⟩; have C10 := Lib.hid (C5.out _ (HBw.out.trans (((hb8.out.trans (hb9.out.mono hb8.out.size)).trans (hb10.mono (Nat.le_trans hb8.out.size hb9.out.size))).mono HBw.out.size))); rw [hpe] at C10; have hb10 := Lib.hid hb10) | (go_at_call 18; refine C10.out.mono ?_; rintro e w11 ⟨rfl, hb11⟩; have hb11 := Lib.hid hb11))
                have HBf : Hid (Below w7.heap.size w7 w10) := ((HB2.out.trans (hb8.out.mono HB2.out.size)).trans (hb9.out.mono (Nat.le_trans HB2.out.size hb8.out.size))).trans (hb10.out.mono (Nat.le_trans (Nat.le_trans HB2.out.size hb8.out.size) hb9.out.size))
                have HBg : Hid (Below w7.heap.size w7 w11) := HBf.out.trans (hb11.out.mono HBf.out.size)
                go_roundw
                case rel => exact ⟨r + 1, by omega, by go_num, HBg.out⟩
                case measure => simp [intOf]; omega
            · obtain rfl : r = n7 := by omega
              go_wp2
              go_roundw
              case rel => exact ⟨k + 1, by omega, by go_num, HBw.out⟩
              case measure => simp [intOf]; omega
    · obtain rfl : k = m := by omega
      have hbw := HB.out
      go_wp2_with (go_at_call 10; refine (CA.out _).mono ?_; rintro e w5 ⟨rfl, hb5⟩; have hb5 := Lib.hid hb5)
      go_returns
      exact ⟨rfl, (HE.out.trans (HB.out.mono HE.out.size)).trans (hb5.out.mono (Nat.le_trans HE.out.size HB.out.size))⟩

end
end Go.Proofs.Ytoonkidlbnndcaa

namespace Go.Proofs.Ytoonkidlbnndcaa
set_option linter.unusedVariables false
set_option linter.unusedSimpArgs false
open Go.ChangeShapes Go.WideShapes Go.ChangeAt Go.RowKit

theorem cdown_any {ops : List OpA} {v : Value} {w : World} (n : Int) (h : OpsAt w v ops) : Calls Try.prog 3 #[.int .i64 n, v] w fun e w' => e = .returned (.bool true) ∧ Below w.heap.size w w' := by
  by_cases hb : n < 1 ∨ 64 < n
  · exact down_bad n hb w v
  · obtain ⟨k, rfl⟩ : ∃ k : Nat, n = (k : Int) := ⟨n.toNat, by omega⟩
    exact down_ok k (by omega) (by omega) h

set_option maxRecDepth 100000 in
theorem down_lifted (os : Os) (started : os.Started) (H : Type) (enc : TypeId × Value → H) :
    ReturnsInHanded {} Try.checked os 3 .any (Rows.cancelDownSpec.pre6 enc Try.prog Try.f3 Rows.cancelDownRow.domain false) (Rows.cancelDownSpec.post enc Try.prog Try.f3 false true false false) := by
  refine returnsInHanded_of_change (C := Try.checked) Try.own started (by kernel_rfl) Try.func3
    (ChangeSpec.witness6 (enc := enc) (C := Try.checked) false ⟨#[], #[.int .i64 0, .slice none 0 0], []⟩ 8 (by kernel_rfl) (by kernel_rfl) (by kernel_rfl) (by kernel_rfl)) ?_
  intro W base args ds gs before hval0 hW hcnd _
  have hval : ∀ (j : Nat) t v, Try.f3.params[j]? = some t → args[j]? = some v → Value.okWide Try.prog W .any base t v := hval0
  have hW' := hW
  obtain ⟨p, q, hA0, hV, rfl, hfz, hnd⟩ := hW
  have hA : DataW.TrodAll enc Try.prog W 0 (fun _ => true) true Try.f3.params.toList args.toList ds p := hA0
  rw [Try.params3] at hA hval
  obtain ⟨v0, v1, d0, d1, p0, p1, rfl, rfl, rfl, h0, h1⟩ := trodAll_two hA
  obtain ⟨rfl, rfl⟩ := trodVars_none hV
  obtain ⟨n, rfl⟩ := okWide_int Try.underlying3 (hval 0 3 v0 rfl rfl)
  obtain ⟨a, len, cap, rfl⟩ := okWide_slice Try.underlying22 (hval 1 22 v1 rfl rfl)
  have h0k := h0
  have h1k := h1
  obtain ⟨fuel, hf⟩ := h1
  obtain ⟨v, ops, hv, ho⟩ := ops_read hf
  obtain rfl : v = .slice a len cap := (one_inj hv).symm
  clear hA0 hval0 hf hv
  simp only [List.append_nil] at hW'
  have hlt : ∀ x ∈ p0 ++ p1, x.block < W.heap.size := fun x hx => by simpa using hW'.lt x hx
  refine (cdown_any n ho).mono fun e W' ⟨he, hb⟩ => ?_
  subst he
  have hargs0 := below_trod Try.laidOut (by kernel_rfl) (of_decide_eq_true (by kernel_rfl)) h0k hb (fun x hx => hlt x (List.mem_append_left _ hx))
  have hargs1 := below_trod Try.laidOut (by kernel_rfl) (of_decide_eq_true (by kernel_rfl)) h1k hb (fun x hx => hlt x (List.mem_append_right _ hx))
  exact ⟨_, rfl, post_of_below (pa := p0 ++ p1) (pv := []) hW' (fun _ _ _ => trodAll_mk1 (shut_bool Try.underlying4 true)) (fun sp hsp => trodAll_mk2 (hargs0 sp (fun x hx => hsp x (by simp; exact Or.inl hx))) (hargs1 sp (fun x hx => hsp x (by simp; exact Or.inr hx)))) (fun _ _ => rfl) (by simp) hb (ok_one (by kernel_rfl) rfl (okWide_bool_mk Try.underlying4 true))⟩

theorem down_holds : Rows.CancelDownSaid :=
  OpenClaim.holds_of_wide 3 Try.f3 rfl rfl rfl rfl rfl rfl rfl ⟨rfl, rfl, rfl, rfl, rfl⟩ rfl rfl rfl rfl rfl (by kernel_rfl) Try.func3 (by kernel_rfl)
    (of_decide_eq_true (by kernel_rfl)) (by unfold Func.isWrapper; first | (rw [if_pos (by decide +kernel)]; kernel_rfl) | (rw [if_neg (by decide +kernel)]; exact ⟨rfl, rfl⟩))
    (fun os started H enc _ => down_lifted os started H enc)

end Go.Proofs.Ytoonkidlbnndcaa
