/-
  awake: a cancelled scope cancels its tasks, in one grove.
-/
import Derived.Test.YtoonkidlbnndcaaExpire
namespace Go.Proofs.Ytoonkidlbnndcaa
set_option linter.unusedVariables false
set_option linter.unusedSimpArgs false
open Go.RowKit

def aw0 : GroveA := ⟨roots 1, [], [], []⟩
def aw1 : GroveA := (aw0.openG 1 false 5).1
def aw2 : GroveA := aw1.on (aw1.tree.spawnR 1).1
def aw3 : GroveA := (aw2.expireG 5).1

theorem aw_open : (aw0.openG 1 false 5).2 = (1, 0) := by rfl
theorem aw_spawn : (aw1.tree.spawnR 1).2 = (2, 0) := by rfl
theorem aw_expire : (aw2.expireG 5).2.map (fun e => e.n) = [1, 2] := by rfl
theorem aw_pending : aw3.pending 2 = true := by rfl

theorem aw_two : ∃ ea eb, (aw2.expireG 5).2 = [ea, eb] ∧ ea.n = 1 ∧ eb.n = 2 := ⟨_, _, rfl, rfl, rfl⟩

theorem aw0_inv : InvG aw0 := inv_new (n := 1) (by omega)
theorem aw1_inv : InvG aw1 := aw0_inv.openG 1 false 5
theorem aw2_inv : InvG aw2 := aw1_inv.spawnG 1
theorem aw3_inv : InvG aw3 := InvG.expireN _ aw2_inv 5

theorem Ext.nil_below {K : Kap} {w w' : World} (E : Ext Kap.nil K w w') : Below w.heap.size w w' := ⟨E.os, E.tape, E.output, E.size, fun b hb => E.keep b hb rfl⟩

set_option maxRecDepth 100000 in
set_option maxHeartbeats 2000000 in
theorem gawake (w : World) : Calls Try.prog 10 #[] w fun e w' => e = .returned (.bool true) ∧ Below w.heap.size w w' := by
  have C0 : Hid (Calls Try.prog 19 #[.int .i64 1] w fun e w' => ∃ (K : Kap) (A : GAt), e = .returned (.tuple #[.pointer (some ⟨A.g, 0, none⟩), .int .i64 0]) ∧ GRep K A aw0 w' ∧ Ext Kap.nil K w w') := gnew_ok 1 w (by omega) (by omega)
  have C1 : Hid (∀ (K : Kap) (A : GAt) W, GRep K A aw0 W → Calls Try.prog 35 #[.pointer (some ⟨A.g, 0, none⟩), .int .i64 1, .bool false, .int .i64 5] W fun e w' => e = .returned (.tuple #[.int .i64 1, .int .i64 0]) ∧ GDone K A W aw1 w') := fun K A W R => gopen R aw0_inv 1 false 5
  have C2 : Hid (∀ (K : Kap) (A : GAt) W (g : Nat), A.g = g → GRep K A aw1 W → Calls Try.prog 36 #[.pointer (some ⟨g, 0, none⟩), .int .i64 1] W fun e w' => e = .returned (.tuple #[.int .i64 2, .int .i64 0]) ∧ GDone K A W aw2 w') := fun K A W g hg R => by subst hg; exact gspawn R aw1_inv 1
  have C3 : Hid (∀ (K : Kap) (A : GAt) W (g : Nat), A.g = g → GRep K A aw2 W → Calls Try.prog 27 #[.pointer (some ⟨g, 0, none⟩), .int .i64 5] W fun e w' => ∃ v, e = .returned (.tuple #[v, .int .i64 0]) ∧ ∃ K' A', A'.g = A.g ∧ GRep K' A' aw3 w' ∧ Ext K K' W w' ∧ ∃ b cap, v = .slice (some ⟨b, 0, none⟩) 2 cap ∧ 2 ≤ cap ∧ b < w'.heap.size ∧ w'.cell? ⟨b, 1, none⟩ = some (.int .i64 1) ∧ w'.cell? ⟨b, 6, none⟩ = some (.int .i64 2)) := fun K A W g hg R => by
    subst hg
    exact (gexpire R aw2_inv 5).mono fun e w' ⟨v, he, K', A', hA, R', E', EO, _⟩ => by
      obtain ⟨ea, eb, h2, ha, hb⟩ := aw_two
      rw [h2] at EO
      obtain ⟨ad, cap, hv, _, hc⟩ := eown_cells EO
      obtain ⟨b, hb0, hlt, hcap, _, _, h1, _⟩ := hc 0 ea rfl
      obtain ⟨b', hb1, _, _, _, _, h6, _⟩ := hc 1 eb rfl
      rw [hb0] at hb1
      injection hb1 with hb1
      injection hb1 with hb1
      subst hb1
      rw [ha] at h1
      rw [hb] at h6
      exact ⟨v, he, K', A', hA, R', E', b, cap, by rw [hv, hb0]; rfl, hcap, hlt, h1, h6⟩
  have C4 : Hid (∀ (K : Kap) (A : GAt) W (g : Nat), A.g = g → GRep K A aw3 W → Calls Try.prog 18 #[.pointer (some ⟨g, 0, none⟩), .int .i64 2] W fun e w' => e = .returned (.bool true) ∧ Below W.heap.size W w') := fun K A W g hg R => by subst hg; exact gpending R aw3_inv.fit.tree 2
  go_enter Try.func10, Try.ntmps10
  go_wp2_with (first
    | (go_at_call 19; refine C0.out.mono ?_; rintro e w1 ⟨K1, A1, rfl, R1, E1⟩; have R1 := Lib.hid R1; have E1 := Lib.hid E1)
    | (go_at_call 35; refine (C1.out _ _ _ R1.out).mono ?_; rintro e w2 ⟨rfl, K2, A2, hA2, R2, E2⟩; have E2 := Lib.hid (E1.out.trans E2); have R2 := Lib.hid R2; have hA2 := Lib.hid hA2)
    | (go_at_call 36; refine (C2.out _ _ _ _ hA2.out R2.out).mono ?_; rintro e w3 ⟨rfl, K3, A3, hA3, R3, E3⟩; have E3 := Lib.hid (E2.out.trans E3); have R3 := Lib.hid R3; have hA3 := Lib.hid (hA3.trans hA2.out))
    | (go_at_call 27; refine (C3.out _ _ _ _ hA3.out R3.out).mono ?_; rintro e w4 ⟨v4, rfl, K4, A4, hA4, R4, E4, b, cap, rfl, hcap, hlt, k1, k6⟩; have E4 := Lib.hid (E3.out.trans E4); have R4 := Lib.hid R4; have hA4 := Lib.hid (hA4.trans hA3.out))
    | (go_at_call 18; refine (C4.out _ _ _ _ hA4.out R4.out).mono ?_; rintro e w5 ⟨rfl, hb5⟩; have hb5 := Lib.hid hb5))
  go_returns
  exact ⟨rfl, (E4.out.trans (Ext.of_below hb5.out)).nil_below⟩

end Go.Proofs.Ytoonkidlbnndcaa
