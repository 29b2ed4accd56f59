/-
  (*Grove).Next.
-/
import Derived.Test.YtoonkidlbnndcaaOver
namespace Go.Proofs.Ytoonkidlbnndcaa
set_option linter.unusedVariables false
set_option linter.unusedSimpArgs false
open Go.RowKit

section
variable {K : Kap} {A : GAt} {G : GroveA} {w w' : World}

theorem overG_tree (G : GroveA) : G.overG.tree = G.tree := rfl
theorem FitG.over (F : FitG G) : FitG G.overG := by
  have hsub : G.overG.dues.Sublist G.dues := List.dropWhile_sublist _
  exact { F with
    sorted := F.sorted.sublist hsub
    once := F.once.sublist (hsub.map _)
    valid := fun d hd => F.valid d (hsub.subset hd) }

/-- The least deadline. -/
def GroveA.nextG (G : GroveA) : Option Int := G.overG.dues.head?.map Prod.fst

theorem GRep.first (R : GRep K A G w) (F : FitG G) : (G.dues = [] → ∃ ad cap, A.dv = .slice ad 0 cap) ∧ ∀ d l, G.dues = d :: l → ∃ b cap, A.dv = .slice (some ⟨b, 0, none⟩) (l.length + 1) cap ∧ l.length + 1 ≤ cap ∧ b < w.heap.size ∧ b ≠ A.g ∧ w.cell? ⟨b, 0, none⟩ = some (.int .i64 d.1) ∧ w.cell? ⟨b, 1, none⟩ = some (.int .i64 d.2) := by
  obtain ⟨arr, D, hp, ho⟩ := R.drep
  refine ⟨fun h => ?_, fun d l h => ?_⟩
  · have ha : arr = [] := by rw [h] at hp; exact List.perm_nil.1 hp
    obtain ⟨ad, cap, hv⟩ := owns_shape D.row
    rw [ha] at hv
    exact ⟨ad, cap, hv⟩
  · have h0 := heap_head ho hp F.sorted h
    have hl : arr.length = l.length + 1 := by rw [hp.length_eq, h]; rfl
    rcases D.form with ⟨_, h⟩ | ⟨b, cap, h1, h2, h3, h4, h5, h6, h7⟩
    · rw [h] at h0; simp at h0
    · have := h7 0 d h0
      rw [hl] at h1 h2
      exact ⟨b, cap, h1, h2, h4, h5, this⟩

def NextPost (K : Kap) (A : GAt) (G : GroveA) (w : World) (e : Ending) (w' : World) : Prop :=
  e = .returned (.tuple #[.int .i64 (G.nextG.getD 0), .bool G.nextG.isSome]) ∧ ∃ A', A'.g = A.g ∧ GRep K A' G.overG w' ∧ Ext K K w w'

theorem gnext (R : GRep K A G w) (F : FitG G) : Calls Try.prog 26 #[.pointer (some ⟨A.g, 0, none⟩)] w (NextPost K A G w) := by
  have CO := Lib.hid (gover R F)
  have HF := Lib.hid F.over
  clear R F
  cases hd : G.overG.dues with
  | nil =>
    have hN : G.nextG = none := by unfold GroveA.nextG; rw [hd]; rfl
    have HN := Lib.hid hN
    have Hd := Lib.hid hd
    clear hN hd
    go_enter Try.func26, Try.ntmps26
    go_wp2_with (go_at_call 50; refine CO.out.mono ?_; rintro e w1 ⟨⟨v, rfl⟩, B, hBg, RB, EB⟩; obtain ⟨ad, cap, hv⟩ := (RB.first HF.out).1 Hd.out; have b3 := RB.gcells.2.2.2; have lg := RB.grove.lt; rw [hBg] at b3 lg; rw [hv] at b3; clear hv; have hBg := Lib.hid hBg; have RB := Lib.hid RB; have EB := Lib.hid EB)
    go_returns
    unfold NextPost
    rw [HN.out]
    exact ⟨rfl, B, hBg.out, RB.out, EB.out⟩
  | cons d l =>
    have hN : G.nextG = some d.1 := by unfold GroveA.nextG; rw [hd]; rfl
    have HN := Lib.hid hN
    have Hd := Lib.hid hd
    have hll : (l.length : Int) + 1 ≤ 200 := by have := HF.out.dues_len; rw [hd] at this; simp at this; omega
    clear hN hd
    generalize hm : l.length = m at *
    have Hm := Lib.hid hm
    clear hm
    have hne : ((m : Int) + 1 == 0) = false := by simp; omega
    go_enter Try.func26, Try.ntmps26
    go_wp2_with (go_at_call 50; refine CO.out.mono ?_; rintro e w1 ⟨⟨v, rfl⟩, B, hBg, RB, EB⟩; obtain ⟨b, cap, hv, hcap, lb, hbg, k0, k1⟩ := (RB.first HF.out).2 _ _ Hd.out; rw [Hm.out] at hv hcap; have b3 := RB.gcells.2.2.2; have lg := RB.grove.lt; rw [hBg] at b3 lg; rw [hv] at b3; clear hv; have hBg := Lib.hid hBg; have RB := Lib.hid RB; have EB := Lib.hid EB)
    go_returns
    unfold NextPost
    rw [HN.out]
    exact ⟨rfl, B, hBg.out, RB.out, EB.out⟩

end
end Go.Proofs.Ytoonkidlbnndcaa
