/-
  slices.Backward where the loop's body stores into a block that lay ahead of the loop.
-/
import Derived.Test.YtoonkidlbnndcaaBack
namespace Go.Proofs.Ytoonkidlbnndcaa
set_option linter.unusedVariables false
set_option linter.unusedSimpArgs false
open Go.RowKit

attribute [local go_sem] Oper.semAt_some

/-- What lay below n₀ lies as it lay, and the block Bs. -/
def KB (n₀ Bs : Nat) (W W' : World) : Prop := Below n₀ W W' ∧ W'.heap[Bs]? = W.heap[Bs]?
theorem KB.refl (n₀ Bs : Nat) (W : World) : KB n₀ Bs W W := ⟨Below.refl _ _, rfl⟩
theorem KB.trans {n₀ Bs : Nat} {A B C : World} (h : KB n₀ Bs A B) (k : KB n₀ Bs B C) : KB n₀ Bs A C := ⟨h.1.trans k.1, k.2.trans h.2⟩

set_option maxRecDepth 100000 in
set_option maxHeartbeats 2000000 in
theorem back1K_in (L : Lay) (n : Nat) (hn : 1 ≤ n) (l Bs n₀ b off cap : Nat) (ns : List Nat) (M : Nat) (hM : ∀ n ∈ ns, n ≤ M) (hlen : ns.length ≤ 1000000) (hcap : ns.length ≤ cap) (hpos : 0 < ns.length) (hb : b < n₀) (J Jx : List (BL M) → World → Prop)
    (hY : ∀ pre x W, J pre W → pre.length < ns.length → YieldAt Fence.wide (n - 1) Try.prog l (encB L x) W fun e W' =>
      (e = .returned (.bool true) ∧ J (pre ++ [x]) W' ∧ KB n₀ Bs W W') ∨ (e = .returned (.bool false) ∧ Jx (pre ++ [x]) W'))
    (W : World) (hBs : W.cell? ⟨Bs, 0, none⟩ = some (.slice (some ⟨b, off, none⟩) ns.length cap)) (hc : ∀ j, j < ns.length → W.cell? ⟨b, off + j, none⟩ = (ns.map L.sp)[j]?) (h0 : J [] W) :
    CallsIn Fence.wide n Try.prog 89 #[.func (.yield l) #[] #[], .pointer (some ⟨Bs, 0, none⟩)] W fun e W' => (∃ v, e = .returned v) ∧
      ((∃ ys, ys = backS hM ns.length ∧ J ys W') ∨ (∃ pre, (∃ k, k ≤ ns.length ∧ pre = backS hM k) ∧ Jx pre W')) := by
  refine callsIn_of_wp Try.func89 rfl trivial ?_ rfl
  simp only [Try.ntmps89, List.size_toArray, List.length_cons, List.length_nil, Nat.reduceAdd, Nat.reduceSub, Array.replicate_succ, Array.replicate_zero, List.push_toArray, List.append_toArray, List.nil_append, List.cons_append]
  have HC := Lib.hid hc
  have HY := Lib.hid hY
  clear hc hY
  generalize hm : ns.length = m at *
  have HM := Lib.hid hm
  clear hm
  gi_wp2
  gi_loopw [3] (fun i wr => ∃ k : Nat, k ≤ m ∧ i = .int .i64 ((m : Int) - 1 - k) ∧ Hid (J (backS hM k) wr) ∧ KB n₀ Bs W wr)
    (fun i _ => (intOf i + 1).toNat)
  case atStart => exact ⟨0, Nat.zero_le _, by simp, h0, KB.refl _ _ _⟩
  case round =>
    obtain ⟨k, hk, rfl, hJs, hnx⟩ := hrel
    by_cases hlt : k < m
    · have hix : m - 1 - k < ns.length := by rw [HM.out]; omega
      have hcx := (hnx.1.cell (p := ⟨b, off + (m - 1 - k), none⟩) hb).trans (HC.out (m - 1 - k) (by omega))
      rw [List.getElem?_map, List.getElem?_eq_getElem hix, Option.map_some] at hcx
      have hbx := (World.cell?_of_block (a := ⟨Bs, 0, none⟩) hnx.2).trans hBs
      have hlk : ns[m - 1 - k] ≤ M := hM _ (List.getElem_mem hix)
      have hY1 := HY.out (backS hM k) ⟨(m - 1 - k, ns[m - 1 - k]), hlk⟩ wr hJs.out (by rw [backS_length]; exact hlt)
      obtain ⟨fn, tmps, assign, body, hy, hR⟩ := hY1
      unfold encB at hy
      dsimp only at hy
      have hcast : ((m - 1 - k : Nat) : Int) = (m : Int) - 1 - k := by omega
      rw [hcast] at hy
      have hback : backS hM (k + 1) = backS hM k ++ [⟨(m - 1 - k, ns[m - 1 - k]), hlk⟩] := by
        rw [backS_succ]
        congr 2
        apply Subtype.ext
        simp only [HM.out, List.getElem?_eq_getElem hix, Option.getD_some]
      have HB := Lib.hid hback
      clear hback hcast
      have hnn : 0 ≤ (m : Int) - 1 - k := by omega
      have htn : ((m : Int) - 1 - k).toNat = m - 1 - k := by omega
      generalize L.sp ns[m - 1 - k] = p at *
      gi_wp2
      refine hR.mono ?_
      rintro e W3 (⟨rfl, hJ3, hk3⟩ | ⟨rfl, hJx3⟩)
      · have hJ3 := Lib.hid hJ3
        gi_wp2
        go_roundw
        case rel => exact ⟨k + 1, by omega, by simp; omega, by rw [HB.out]; exact hJ3.out, hnx.trans hk3⟩
        case measure => simp [intOf]; omega
      · have hJx3 := Lib.hid hJx3
        gi_wp2
        refine bodyPost_ret (results_none rfl _ _ _) rfl ?_
        exact ⟨⟨_, rfl⟩, .inr ⟨_, ⟨k + 1, by omega, HB.out.symm⟩, hJx3.out⟩⟩
    · obtain rfl : k = m := by omega
      gi_wp2
      go_end0
      exact ⟨⟨_, rfl⟩, .inl ⟨_, rfl, hJs.out⟩⟩

/-- What comes of slices.Backward(v), v reading as the links ns: all, or the first k of them. The body keeps what lay below n₀. -/
theorem back_stopsK (L : Lay) (n : Nat) (hn : 1 ≤ n) (Bs n₀ : Nat) (v : Value) (ns : List Nat) (M : Nat) (hM : ∀ n ∈ ns, n ≤ M) (hlen : ns.length ≤ 1000000) (w : World) (hn₀ : n₀ ≤ w.heap.size) (hBsw : Bs < w.heap.size)
    (hc : w.cell? ⟨Bs, 0, none⟩ = some v) (hR : (∃ ad c, v = .slice ad 0 c ∧ ns = []) ∨ ∃ b o cap, v = .slice (some ⟨b, o, none⟩) ns.length cap ∧ ns.length ≤ cap ∧ b < n₀ ∧ ∀ j, j < ns.length → w.cell? ⟨b, o + j, none⟩ = (ns.map L.sp)[j]?) :
    SeqStopsK Fence.wide n Try.prog 89 #[.pointer (some ⟨Bs, 0, none⟩)] (encB L (M := M)) (KB n₀ Bs) (fun ys => ys = backS hM ns.length)
      (fun pre => ∃ k, k ≤ ns.length ∧ pre = backS hM k) ns.length w := fun l J Jx W hW _ _ hY h0 => by
  have hc' := (hW.cell (p := ⟨Bs, 0, none⟩) hBsw).trans hc
  rcases hR with ⟨ad, c, rfl, rfl⟩ | ⟨b, o, cap, rfl, h1, h2, h3⟩
  · exact (back1_nil_in n l Bs ad c M J W hc' h0).mono fun e W' ⟨he, hj⟩ => ⟨he, .inl ⟨_, rfl, hj⟩⟩
  · by_cases hpos : 0 < ns.length
    · exact back1K_in L n hn l Bs n₀ b o cap ns M hM hlen h1 hpos h2 J Jx hY W hc' (fun j hj => (hW.cell (p := ⟨b, o + j, none⟩) (Nat.lt_of_lt_of_le h2 hn₀)).trans (h3 j hj)) h0
    · have : ns = [] := List.eq_nil_of_length_eq_zero (by omega)
      subst this
      exact (back1_nil_in n l Bs _ cap M J W hc' h0).mono fun e W' ⟨he, hj⟩ => ⟨he, .inl ⟨_, rfl, hj⟩⟩

end Go.Proofs.Ytoonkidlbnndcaa
