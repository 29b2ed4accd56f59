/-
  (*Grove).Expire.
-/
import Derived.Test.YtoonkidlbnndcaaExpire0
namespace Go.Proofs.Ytoonkidlbnndcaa
set_option linter.unusedVariables false
set_option linter.unusedSimpArgs false
open Go.RowKit

section
variable {K K' : Kap} {A : GAt} {G : GroveA} {w w' w2 : World}

/-- The least deadline is removed. -/
theorem gpop (R : GRep K A G w) (F : FitG G) {a b : Int} {l : List (Int × Int)} (hd : G.dues = (a, b) :: l) :
    Calls Try.prog 51 #[.iface 94 (.pointer (some ⟨A.g, 3, none⟩))] w fun e w' => e = .returned (.iface 92 (.agg #[.int .i64 a, .int .i64 b])) ∧ ∃ A2, A2.g = A.g ∧ GRep K A2 { G with dues := l } w' ∧ Ext K K w w' := by
  obtain ⟨arr, D, hp, ho⟩ := R.drep
  have h0 := heap_head ho hp F.sorted hd
  have hl := F.dues_len
  refine (hpop_any (κ := K.on Tag.ofDues) D (by rw [hp.length_eq]; omega) (Kap.on_mk R.kg rfl) (fun b hb => Kap.on_mk (R.kd b hb) rfl) ho h0).mono ?_
  rintro e w' ⟨he, dv', arr', hD', hp', ho', E', hd'⟩
  have hpl : arr'.Perm l := by
    have h1 : ((a, b) :: arr').Perm ((a, b) :: l) := by rw [← hd]; exact hp'.symm.trans hp
    exact h1.cons_inv
  obtain ⟨R', E2⟩ := R.duesSame E' hD' hpl ho' hd'
  exact ⟨he, _, by rfl, R', E2⟩

/-- What holds at the head of the loop: k is how many deadlines there may be. -/
def ExpAt (K : Kap) (A : GAt) (G : GroveA) (now : Int) (w : World) (k : Nat) (u : Value) (wr : World) : Prop :=
  ∃ (G0 : GroveA) (K' : Kap) (A' : GAt) (acc : List EffA), A'.g = A.g ∧ InvG G0 ∧ G0.dues.length ≤ k ∧ k ≤ G.dues.length ∧ GRep K' A' G0.overG wr ∧ EOwn K' wr u acc ∧ Fresh w u ∧ Ext K K' w wr ∧ acc.length ≤ (G.dues.length - k) * 1000000 ∧
    G.expireG now = ((GroveA.expireN (k + 1) G0 now).1, acc ++ (GroveA.expireN (k + 1) G0 now).2)

set_option maxRecDepth 100000 in
set_option maxHeartbeats 4000000 in
theorem gexpire (R : GRep K A G w) (I : InvG G) (now : Int) : Calls Try.prog 27 #[.pointer (some ⟨A.g, 0, none⟩), .int .i64 now] w (GEff K A w ((G.expireG now).1, (G.expireG now).2, 0)) := by
  have CO := Lib.hid (gover R I.fit)
  have HI := Lib.hid I
  have HDL : Hid (G.dues.length ≤ 200) := I.fit.dues_len
  obtain ⟨n0, hn0⟩ : ∃ n0, n0 = G.dues.length := ⟨_, rfl⟩
  have Hn0 := Lib.hid hn0
  clear R I hn0
  go_enter Try.func27, Try.ntmps27
  go_wp2_with (go_at_call 50; refine CO.out.mono ?_; rintro e w1 ⟨⟨v, rfl⟩, B, hBg, RB, EB⟩; have hBg := Lib.hid hBg; have RB := Lib.hid RB; have EB := Lib.hid EB)
  go_loopg [6] (n0) (fun k u wr => Hid (ExpAt K A G now w k u wr))
  case atStart =>
    have h0 := Hn0.out
    subst h0
    exact ⟨G, K, B, [], hBg.out, HI.out, Nat.le_refl _, Nat.le_refl _, RB.out, eown_nil _ _, (fun b hb => by cases hb), EB.out, by simp, rfl⟩
  case round =>
    obtain ⟨G0, K', A', acc, hA, I0, hlen, hk, R', hu, hf, E', hacc, hexp⟩ := hrel.out
    have I1 := I0.over
    obtain ⟨b0, _, _, b3⟩ := R'.gcells
    have lg := R'.grove.lt
    rw [hA] at b0 b3 lg
    cases hd : G0.overG.dues with
    | nil =>
      obtain ⟨ad, cap, hv⟩ := (R'.first I1.fit).1 hd
      rw [hv] at b3
      have HE : Hid (G.expireG now = (G0.overG, acc)) := by
        show _ = _
        rw [hexp]
        unfold GroveA.expireN
        rw [hd]
        simp
      have R' := Lib.hid R'
      have hu := Lib.hid hu
      have hf := Lib.hid hf
      have E' := Lib.hid E'
      have hA := Lib.hid hA
      clear hrel hv hd I0 I1 hlen hk hacc hexp
      go_wp2
      go_returns
      rw [HE.out]
      exact ⟨_, rfl, K', A', hA.out, R'.out, E'.out, hu.out, hf.out⟩
    | cons d l =>
      obtain ⟨da, db⟩ := d
      obtain ⟨b, cap, hv, hcap, lb, hbg, k0, k1⟩ := (R'.first I1.fit).2 _ _ hd
      simp only at k0 k1
      rw [hv] at b3
      have hl1 : l.length ≤ 200 := by have := I1.fit.dues_len; rw [hd] at this; simp at this; omega
      by_cases hle : da ≤ now
      · have hvalid := I1.valid (da, db) (by rw [hd]; simp)
        have hsub : G0.overG.dues.length ≤ G0.dues.length := (List.dropWhile_sublist _).length_le
        have hkp : 1 ≤ gk := by rw [hd] at hsub; simp at hsub; omega
        have hlk : l.length ≤ gk - 1 := by rw [hd] at hsub; simp at hsub; omega
        have I2 := I1.tail hd
        have CP := Lib.hid (gpop R' I1.fit hd)
        rw [hA] at CP
        obtain ⟨i, hi⟩ : ∃ i : Nat, db = (i : Int) + 1 := ⟨db.toNat - 1, by have := hvalid.2.2.1; simp only at this; omega⟩
        have hil : i < G0.overG.tree.scopes.length := by have := hvalid.2.2.2; simp only at this; omega
        have I3 : InvG (({ G0.overG with dues := l } : GroveA).failG ((i : Int) + 1) lateFlt).1 := I2.failG _ _
        have hft : (({ G0.overG with dues := l } : GroveA).failG ((i : Int) + 1) lateFlt).1.tree.scopes.length = G0.overG.tree.scopes.length := by
          rw [(failG_tree _ _).1]; exact (failR_ok _ _).1
        have hl3 : (({ G0.overG with dues := l } : GroveA).failG ((i : Int) + 1) lateFlt).2.1.length ≤ 800008 := failG_len I2 _ _
        have I4 : InvG (({ G0.overG with dues := l } : GroveA).comes ((i : Int) + 1)).1 := I2.comes (by omega) (by show _ ≤ (G0.overG.tree.scopes.length : Int); omega)
        have hl4 : ((({ G0.overG with dues := l } : GroveA).failG ((i : Int) + 1) lateFlt).1.strikeE true ((i : Int) + 1) ((({ G0.overG with dues := l } : GroveA).failG ((i : Int) + 1) lateFlt).1.tree.reach i)).length ≤ 100001 := Nat.le_trans (strikeE_len _ _ _ _) (reach_len I3.inv i)
        have hd4 : (({ G0.overG with dues := l } : GroveA).comes ((i : Int) + 1)).1.dues = l := by
          have h1 : (({ G0.overG with dues := l } : GroveA).failG ((i : Int) + 1) lateFlt).1.dues = l := (failG_tree _ _).2.1
          show ((({ G0.overG with dues := l } : GroveA).failG ((i : Int) + 1) lateFlt).1.strikeG true ((i : Int) + 1)).dues = l
          unfold GroveA.strikeG
          split
          · exact h1
          · exact h1
        have hnat : ((i : Int) + 1).toNat - 1 = i := by omega
        have HE : Hid (G.expireG now = ((GroveA.expireN gk (({ G0.overG with dues := l } : GroveA).comes ((i : Int) + 1)).1 now).1,
            (acc ++ (({ G0.overG with dues := l } : GroveA).failG ((i : Int) + 1) lateFlt).2.1 ++ (({ G0.overG with dues := l } : GroveA).failG ((i : Int) + 1) lateFlt).1.strikeE true ((i : Int) + 1) ((({ G0.overG with dues := l } : GroveA).failG ((i : Int) + 1) lateFlt).1.tree.reach i)) ++
            (GroveA.expireN gk (({ G0.overG with dues := l } : GroveA).comes ((i : Int) + 1)).1 now).2)) := by
          show _ = _
          rw [hexp]
          rw [GroveA.expireN]
          rw [hd]
          simp only
          rw [if_pos hle, ← hi]
          simp only [GroveA.comes, hi, hnat, List.append_assoc]
        have GF : Hid (∀ (W : World) (K A2 : _), A2.g = A.g → GRep K A2 { G0.overG with dues := l } W → Calls Try.prog 39 #[.pointer (some ⟨A.g, 0, none⟩), .int .i64 ((i : Int) + 1), fltV lateFlt] W (GEff K A2 W (({ G0.overG with dues := l } : GroveA).failG ((i : Int) + 1) lateFlt))) := fun W K A2 h R => by
          rw [← h]; exact gfail R I2 _ _
        have GS : Hid (∀ (W : World) (K A2 : _), A2.g = A.g → GRep K A2 (({ G0.overG with dues := l } : GroveA).failG ((i : Int) + 1) lateFlt).1 W → Calls Try.prog 53 #[.pointer (some ⟨A.g, 0, none⟩), .int .i64 ((i : Int) + 1)] W (GPost K A2 W (({ G0.overG with dues := l } : GroveA).comes ((i : Int) + 1)).1 ((({ G0.overG with dues := l } : GroveA).failG ((i : Int) + 1) lateFlt).1.strikeE true ((i : Int) + 1) ((({ G0.overG with dues := l } : GroveA).failG ((i : Int) + 1) lateFlt).1.tree.reach i)))) := fun W K A2 h R => by
          rw [← h]; exact gstrikes R I3.fit (by rw [hft]; exact hil)
        have GO : Hid (∀ (W : World) (K A2 : _), A2.g = A.g → GRep K A2 (({ G0.overG with dues := l } : GroveA).comes ((i : Int) + 1)).1 W → Calls Try.prog 50 #[.pointer (some ⟨A.g, 0, none⟩)] W fun e w' => (∃ v, e = .returned v) ∧ ∃ A', A'.g = A.g ∧ GRep K A' (({ G0.overG with dues := l } : GroveA).comes ((i : Int) + 1)).1.overG w' ∧ Ext K K W w') := fun W K A2 h R => by
          rw [← h]; exact gover R I4.fit
        have I4 := Lib.hid I4
        have hl3 := Lib.hid hl3
        have hl4 := Lib.hid hl4
        have hd4 := Lib.hid hd4
        have hu := Lib.hid hu
        have hf := Lib.hid hf
        have E' := Lib.hid E'
        have hacc := Lib.hid hacc
        have hk := Lib.hid hk
        have hlk := Lib.hid hlk
        have hkp := Lib.hid hkp
        subst hi
        clear hrel hv hd I0 I1 hlen hexp I2 I3 hft hil hvalid hsub R' hnat
        have GFf : fltV lateFlt = .agg #[.int .i64 1, .string ⟨#[108, 97, 116, 101]⟩] := rfl
        rw [GFf] at GF
        clear GFf
        generalize (({ G0.overG with dues := l } : GroveA).comes ((i : Int) + 1)).1 = G4 at *
        generalize (({ G0.overG with dues := l } : GroveA).failG ((i : Int) + 1) lateFlt).1.strikeE true ((i : Int) + 1) ((({ G0.overG with dues := l } : GroveA).failG ((i : Int) + 1) lateFlt).1.tree.reach i) = e4 at *
        generalize ({ G0.overG with dues := l } : GroveA).failG ((i : Int) + 1) lateFlt = q at *
        obtain ⟨G3, e3, er3⟩ := q
        simp only at GF GS HE hl3
        generalize ({ G0.overG with dues := l } : GroveA) = G2 at *
        generalize hm : l.length = m at *
        have Hm := Lib.hid hm
        clear hm
        have h00 : (0 : Int) < (m : Int) + 1 := by omega
        have hta : ∀ (a b : Value) (W : World), (Instr.typeAssert (.iface 92 (.agg #[a, b])) 20 92 false).run Try.prog W = .ok (.agg #[a, b]) W := fun a b W => by kernel_rfl
        go_wp2_with (go_at_call 51; refine CP.out.mono ?_; rintro e w2 ⟨rfl, A2, hA2, R2, E2⟩; have hA2 := Lib.hid hA2; have R2 := Lib.hid R2; have E2 := Lib.hid E2)
        have hu2 := Lib.hid (eown_ext hu.out E2.out)
        have hq0 : Hid (K' w2.heap.size = none) := R2.out.gone (Nat.le_refl _)
        have Bx2 := Lib.hid (Blk.new w2 92 #[.int .i64 da, .int .i64 ((i : Int) + 1)])
        have hE0 : Hid (Ext K K' w (w2.alloc (.cells #[.int .i64 da, .int .i64 ((i : Int) + 1)] 92)).drew) := ((E'.out.trans E2.out).alloc _).drewN 1
        have hu3 : Hid (EOwn K' (w2.alloc (.cells #[.int .i64 da, .int .i64 ((i : Int) + 1)] 92)).drew u6 acc) := eown_ext hu2.out (Ext.of_below (((Below.refl w2.heap.size w2).alloc (Nat.le_refl _) _).drew))
        have R3' : Hid (GRep K' A2 G2 (w2.alloc (.cells #[.int .i64 da, .int .i64 ((i : Int) + 1)] 92)).drew) := (R2.out.below ((Below.refl w2.heap.size w2).alloc (Nat.le_refl _) _)).drew
        have hn4 : Hid (acc.length ≤ 200000000) := by
          show _ ≤ _
          have h1 := hacc.out
          have h2 := HDL.out
          have : (G.dues.length - gk) * 1000000 ≤ 200 * 1000000 := Nat.mul_le_mul_right _ (by omega)
          omega
        have hn5 : Hid (acc.length + e3.length ≤ 1000000000) := by
          show _ ≤ _
          have h1 := hn4.out
          have h2 := hl3.out
          omega
        have hn6 : Hid ((acc ++ e3).length + e4.length ≤ 1000000000) := by
          show _ ≤ _
          have h1 := hn4.out
          have h2 := hl3.out
          have h3 := hl4.out
          rw [List.length_append]
          omega
        clear CP
        go_region_law (first | (go_simp; go_at_call 52; refine (throw_any _ _).mono ?_; rintro e w3 ⟨rfl, hb3⟩; have Bx3 := Blk.below (w := (w2.alloc (.cells #[.int .i64 da, .int .i64 ((i : Int) + 1)] 92)).drew) Bx2.out hb3; have c3 : w3.cell? ⟨w2.heap.size, 1, none⟩ = some (.int .i64 ((i : Int) + 1)) := Bx3.cell 1 rfl; have Bx3 := Lib.hid Bx3; have R3 := Lib.hid (R3'.out.below hb3); have hu4 := Lib.hid (eown_ext hu3.out (Ext.of_below (κ := K') hb3)); have hE3 := Lib.hid (hE0.out.trans (Ext.of_below (κ := K') hb3)); clear hb3) | (go_simp; go_at_call 39; refine (GF.out _ K' A2 hA2.out R3.out).mono ?_; rintro e w4 ⟨v4, rfl, K4, A4, hA4, R4, E4, EO4, Fr4⟩; obtain ⟨Bx4, hq4⟩ := blk_ext Bx3.out hq0.out E4; have c4 : w4.cell? ⟨w2.heap.size, 1, none⟩ = some (.int .i64 ((i : Int) + 1)) := Bx4.cell 1 rfl; have hu5 := Lib.hid (eown_ext hu4.out E4); have hE4 := Lib.hid (hE3.out.trans E4); have hA4 := Lib.hid (hA4.trans hA2.out); have R4 := Lib.hid R4; have EO4 := Lib.hid EO4; have Bx4 := Lib.hid Bx4; have hq4 := Lib.hid hq4; clear E4 Fr4))
        all_goals
          go_wp2_with (first
            | (at_builtin; refine wpList_extendB rfl (.tmp 47) (.tmp 48) 51 rfl 62 5 48 _ Try.infoEffect rfl (by omega) (by omega) Try.underlying51 _ acc.length _ rfl hu5.out.1 v4 _ _ rfl EO4.out.1 (effs_one _) hn5.out ?_; intro v5 w5 hown5 hgrow5 hat5; obtain ⟨R5, hu6, hf5, hE5⟩ := Told.grown R4.out hu5.out hf.out hE4.out hown5 hgrow5 hat5; have Bx5 := Bx4.out.grown hgrow5 (due_apart Bx4.out hu5.out); have c5 : w5.cell? ⟨w2.heap.size, 1, none⟩ = some (.int .i64 ((i : Int) + 1)) := Bx5.cell 1 rfl; have R5 := Lib.hid R5; have hu6 := Lib.hid hu6; have hf5 := Lib.hid hf5; have hE5 := Lib.hid hE5; clear Bx5 hown5 hgrow5 hat5)
            | (go_at_call 53; refine (GS.out _ K4 A4 hA4.out R5.out).mono ?_; rintro e w6 ⟨v6, rfl, R6, EO6, Fr6, E6⟩; have hu7 := Lib.hid (eown_ext hu6.out E6); have hE6 := Lib.hid (hE5.out.trans E6); have R6 := Lib.hid R6; have EO6 := Lib.hid EO6; clear Fr6 E6)
            | (at_builtin; refine wpList_extendB rfl (.tmp 50) (.tmp 54) 51 rfl 62 5 48 _ Try.infoEffect rfl (by omega) (by omega) Try.underlying51 _ (acc ++ e3).length _ rfl hu7.out.1 v6 _ _ rfl EO6.out.1 (effs_one _) hn6.out ?_; intro v7 w7 hown7 hgrow7 hat7; obtain ⟨R7, hu8, hf7, hE7⟩ := Told.grown R6.out hu7.out hf5.out hE6.out hown7 hgrow7 hat7; have R7 := Lib.hid R7; have hu8 := Lib.hid hu8; have hf7 := Lib.hid hf7; have hE7 := Lib.hid hE7; clear hown7 hgrow7 hat7)
            | (go_at_call 50; refine (GO.out _ K4 A4 hA4.out R7.out).mono ?_; rintro e w8 ⟨⟨v8, rfl⟩, A8, hA8, R8, E8⟩; have hu9 := Lib.hid (eown_ext hu8.out E8); have hE8 := Lib.hid (hE7.out.trans E8); have R8 := Lib.hid R8; have hA8 := Lib.hid hA8; clear E8))
          have HFin : ExpAt K A G now w (gk - 1) v7 w8 := by
            have h1 := hkp.out
            have h2 := hk.out
            refine ⟨G4, K4, A8, acc ++ e3 ++ e4, hA8.out, I4.out, by rw [hd4.out, Hm.out]; exact hlk.out, by omega, R8.out, hu9.out, hf7.out, hE8.out, ?_, ?_⟩
            · have h3 := hacc.out
              have h4 := hl3.out
              have h5 := hl4.out
              have h6 : G.dues.length - (gk - 1) = (G.dues.length - gk) + 1 := by omega
              rw [h6, Nat.add_mul, List.length_append, List.length_append]
              omega
            · rw [show gk - 1 + 1 = gk by omega]
              exact HE.out
          have HFin := Lib.hid HFin
          go_roundg (gk - 1)
          case rel => exact HFin.out
          case measure => have := hkp.out; omega
      · have HE : Hid (G.expireG now = (G0.overG, acc)) := by
          show _ = _
          rw [hexp]
          unfold GroveA.expireN
          rw [hd]
          simp only
          rw [if_neg hle]
          simp
        have R' := Lib.hid R'
        have hu := Lib.hid hu
        have hf := Lib.hid hf
        have E' := Lib.hid E'
        have hA := Lib.hid hA
        have hlt : ¬ da ≤ now := hle
        generalize hm : l.length = m at *
        have h00 : (0 : Int) < (m : Int) + 1 := by omega
        clear hrel hv hd I0 I1 hlen hk hacc hexp hle hm
        go_wp2
        go_returns
        rw [HE.out]
        exact ⟨_, rfl, K', A', hA.out, R'.out, E'.out, hu.out, hf.out⟩

end
end Go.Proofs.Ytoonkidlbnndcaa
