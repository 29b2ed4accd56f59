/-
  slices.Backward over open links: what comes, from the last to the first.
-/
import Derived.Test.YtoonkidlbnndcaaEnd
import Derived.RangeFuncNested
import Derived.RangeFuncBox
import Derived.RangeFuncBound
import Derived.RangeFuncCalls
import Derived.RangeFuncLeaves
import Derived.RangeFuncWrites
import Derived.OwnWalkIn
import Derived.TacticsInMore
import Derived.LoopNIn
import Derived.LoopIn
namespace Go.Proofs.Ytoonkidlbnndcaa
set_option linter.unusedVariables false
set_option linter.unusedSimpArgs false
open Go.RowKit

attribute [local go_sem] Oper.semAt_some

/-- What has come behind k rounds: the index and the link, from the last on. -/
def backTo (ns : List Nat) (k : Nat) : List (Nat × Nat) := (List.range k).map fun j => (ns.length - 1 - j, ns[ns.length - 1 - j]?.getD 0)
theorem backTo_succ (ns : List Nat) (k : Nat) : backTo ns (k + 1) = backTo ns k ++ [(ns.length - 1 - k, ns[ns.length - 1 - k]?.getD 0)] := by simp [backTo, List.range_succ]
theorem backTo_length (ns : List Nat) (k : Nat) : (backTo ns k).length = k := by simp [backTo]

/-- An index and a link that is a scope of M. -/
abbrev BL (M : Nat) := { p : Nat × Nat // p.2 ≤ M }
theorem getD_le {ns : List Nat} {M : Nat} (h : ∀ n ∈ ns, n ≤ M) (j : Nat) : ns[j]?.getD 0 ≤ M := by
  rcases Nat.lt_or_ge j ns.length with hj | hj
  · rw [List.getElem?_eq_getElem hj]; exact h _ (List.getElem_mem hj)
  · rw [List.getElem?_eq_none hj]; exact Nat.zero_le _
def backS {ns : List Nat} {M : Nat} (h : ∀ n ∈ ns, n ≤ M) (k : Nat) : List (BL M) := (List.range k).map fun j => ⟨(ns.length - 1 - j, ns[ns.length - 1 - j]?.getD 0), getD_le h _⟩
theorem backS_succ {ns : List Nat} {M : Nat} (h : ∀ n ∈ ns, n ≤ M) (k : Nat) : backS h (k + 1) = backS h k ++ [⟨(ns.length - 1 - k, ns[ns.length - 1 - k]?.getD 0), getD_le h _⟩] := by simp [backS, List.range_succ]
theorem backS_length {ns : List Nat} {M : Nat} (h : ∀ n ∈ ns, n ≤ M) (k : Nat) : (backS h k).length = k := by simp [backS]
theorem backS_val {ns : List Nat} {M : Nat} (h : ∀ n ∈ ns, n ≤ M) (k : Nat) : (backS h k).map (·.1) = backTo ns k := by
  unfold backS backTo
  rw [List.map_map]
  rfl

def encB (L : Lay) {M : Nat} (x : BL M) : Array Value := #[.int .i64 (x.1.1 : Int), L.sp x.1.2]

set_option maxRecDepth 100000 in
set_option maxHeartbeats 2000000 in
theorem back1_in (L : Lay) (n : Nat) (hn : 1 ≤ n) (l Bs n₀ b off cap : Nat) (ns : List Nat) (M : Nat) (hM : ∀ n ∈ ns, n ≤ M) (hlen : ns.length ≤ 1000000) (hcap : ns.length ≤ cap) (hpos : 0 < ns.length) (hb : b < n₀) (hBs0 : Bs < n₀) (J Jx : List (BL M) → World → Prop)
    (hY : ∀ pre x W, J pre W → pre.length < ns.length → YieldAt Fence.wide (n - 1) Try.prog l (encB L x) W fun e W' =>
      (e = .returned (.bool true) ∧ J (pre ++ [x]) W' ∧ Below n₀ W W') ∨ (e = .returned (.bool false) ∧ Jx (pre ++ [x]) W'))
    (W : World) (hBs : W.cell? ⟨Bs, 0, none⟩ = some (.slice (some ⟨b, off, none⟩) ns.length cap)) (hc : ∀ j, j < ns.length → W.cell? ⟨b, off + j, none⟩ = (ns.map L.sp)[j]?) (h0 : J [] W) :
    CallsIn Fence.wide n Try.prog 89 #[.func (.yield l) #[] #[], .pointer (some ⟨Bs, 0, none⟩)] W fun e W' => (∃ v, e = .returned v) ∧
      ((∃ ys, ys = backS hM ns.length ∧ J ys W') ∨ (∃ pre, (∃ k, k ≤ ns.length ∧ pre = backS hM k) ∧ Jx pre W')) := by
  refine callsIn_of_wp Try.func89 rfl trivial ?_ rfl
  simp only [Try.ntmps89, List.size_toArray, List.length_cons, List.length_nil, Nat.reduceAdd, Nat.reduceSub, Array.replicate_succ, Array.replicate_zero, List.push_toArray, List.append_toArray, List.nil_append, List.cons_append]
  have HC := Lib.hid hc
  have HY := Lib.hid hY
  clear hc hY
  generalize hm : ns.length = m at *
  have HM := Lib.hid hm
  clear hm
  gi_wp2
  gi_loopw [3] (fun i wr => ∃ k : Nat, k ≤ m ∧ i = .int .i64 ((m : Int) - 1 - k) ∧ Hid (J (backS hM k) wr) ∧ Below n₀ W wr)
    (fun i _ => (intOf i + 1).toNat)
  case atStart => exact ⟨0, Nat.zero_le _, by simp, h0, Below.refl _ _⟩
  case round =>
    obtain ⟨k, hk, rfl, hJs, hnx⟩ := hrel
    by_cases hlt : k < m
    · have hix : m - 1 - k < ns.length := by rw [HM.out]; omega
      have hcx := (hnx.cell (p := ⟨b, off + (m - 1 - k), none⟩) hb).trans (HC.out (m - 1 - k) (by omega))
      rw [List.getElem?_map, List.getElem?_eq_getElem hix, Option.map_some] at hcx
      have hbx := (hnx.cell (p := ⟨Bs, 0, none⟩) hBs0).trans hBs
      have hlk : ns[m - 1 - k] ≤ M := hM _ (List.getElem_mem hix)
      have hY1 := HY.out (backS hM k) ⟨(m - 1 - k, ns[m - 1 - k]), hlk⟩ wr hJs.out (by rw [backS_length]; exact hlt)
      obtain ⟨fn, tmps, assign, body, hy, hR⟩ := hY1
      unfold encB at hy
      dsimp only at hy
      have hcast : ((m - 1 - k : Nat) : Int) = (m : Int) - 1 - k := by omega
      rw [hcast] at hy
      have hback : backS hM (k + 1) = backS hM k ++ [⟨(m - 1 - k, ns[m - 1 - k]), hlk⟩] := by
        rw [backS_succ]
        congr 2
        apply Subtype.ext
        simp only [HM.out, List.getElem?_eq_getElem hix, Option.getD_some]
      have HB := Lib.hid hback
      clear hback hcast
      have hnn : 0 ≤ (m : Int) - 1 - k := by omega
      have htn : ((m : Int) - 1 - k).toNat = m - 1 - k := by omega
      generalize L.sp ns[m - 1 - k] = p at *
      gi_wp2
      refine hR.mono ?_
      rintro e W3 (⟨rfl, hJ3, hk3⟩ | ⟨rfl, hJx3⟩)
      · have hJ3 := Lib.hid hJ3
        gi_wp2
        go_roundw
        case rel => exact ⟨k + 1, by omega, by simp; omega, by rw [HB.out]; exact hJ3.out, hnx.trans hk3⟩
        case measure => simp [intOf]; omega
      · have hJx3 := Lib.hid hJx3
        gi_wp2
        refine bodyPost_ret (results_none rfl _ _ _) rfl ?_
        exact ⟨⟨_, rfl⟩, .inr ⟨_, ⟨k + 1, by omega, HB.out.symm⟩, hJx3.out⟩⟩
    · obtain rfl : k = m := by omega
      gi_wp2
      go_end0
      exact ⟨⟨_, rfl⟩, .inl ⟨_, rfl, hJs.out⟩⟩

set_option maxRecDepth 100000 in
set_option maxHeartbeats 1000000 in
theorem back1_nil_in (n : Nat) (l Bs : Nat) (ad : Option Addr) (cap : Nat) (M : Nat) (J : List (BL M) → World → Prop) (W : World) (hBs : W.cell? ⟨Bs, 0, none⟩ = some (.slice ad 0 cap)) (h0 : J [] W) :
    CallsIn Fence.wide n Try.prog 89 #[.func (.yield l) #[] #[], .pointer (some ⟨Bs, 0, none⟩)] W fun e W' => (∃ v, e = .returned v) ∧ J [] W' := by
  refine callsIn_of_wp Try.func89 rfl trivial ?_ rfl
  simp only [Try.ntmps89, List.size_toArray, List.length_cons, List.length_nil, Nat.reduceAdd, Nat.reduceSub, Array.replicate_succ, Array.replicate_zero, List.push_toArray, List.append_toArray, List.nil_append, List.cons_append]
  have h0 := Lib.hid h0
  gi_wp2
  gi_loopw [3] (fun i wr => i = .int .i64 (-1) ∧ Hid (J [] wr)) (fun _ _ => 0)
  case atStart => exact ⟨rfl, h0⟩
  case round =>
    obtain ⟨rfl, hJs⟩ := hrel
    gi_wp2
    go_end0
    exact ⟨⟨_, rfl⟩, hJs.out⟩

set_option maxHeartbeats 1000000 in
theorem back_in (n : Nat) (v : Value) (w : World) (hv : ∃ a len cap, v = .slice a len cap) :
    CallsIn Fence.wide n Try.prog 75 #[v] w fun e w' => e = .returned (.func (.func 89) #[] #[.pointer (some ⟨w.heap.size, 0, none⟩)]) ∧ w' = w.alloc (.cells #[v] 105) := by
  obtain ⟨a, len, cap, rfl⟩ := hv
  refine callsIn_of_wp Try.func75 rfl trivial ?_ rfl
  simp only [Try.ntmps75, List.size_toArray, List.length_cons, List.length_nil, Nat.reduceAdd, Nat.reduceSub, Array.replicate_succ, Array.replicate_zero, List.push_toArray, List.append_toArray, List.nil_append, List.cons_append]
  gi_wp2
  go_ret
  exact ⟨rfl, rfl⟩

/-- What comes of slices.Backward(v), v reading as the links ns: all, or the first k of them. The body keeps what lay below n₀. -/
theorem back_stops (L : Lay) (n : Nat) (hn : 1 ≤ n) (Bs n₀ : Nat) (v : Value) (ns : List Nat) (M : Nat) (hM : ∀ n ∈ ns, n ≤ M) (hlen : ns.length ≤ 1000000) (w : World) (hn₀ : n₀ ≤ w.heap.size) (hBs0 : Bs < n₀)
    (hc : w.cell? ⟨Bs, 0, none⟩ = some v) (hR : (∃ ad c, v = .slice ad 0 c ∧ ns = []) ∨ ∃ b o cap, v = .slice (some ⟨b, o, none⟩) ns.length cap ∧ ns.length ≤ cap ∧ b < n₀ ∧ ∀ j, j < ns.length → w.cell? ⟨b, o + j, none⟩ = (ns.map L.sp)[j]?) :
    SeqStopsK Fence.wide n Try.prog 89 #[.pointer (some ⟨Bs, 0, none⟩)] (encB L (M := M)) (Below n₀) (fun ys => ys = backS hM ns.length)
      (fun pre => ∃ k, k ≤ ns.length ∧ pre = backS hM k) ns.length w := fun l J Jx W hW _ _ hY h0 => by
  have hc' := (hW.cell (p := ⟨Bs, 0, none⟩) (Nat.lt_of_lt_of_le hBs0 hn₀)).trans hc
  rcases hR with ⟨ad, c, rfl, rfl⟩ | ⟨b, o, cap, rfl, h1, h2, h3⟩
  · exact (back1_nil_in n l Bs ad c M J W hc' h0).mono fun e W' ⟨he, hj⟩ => ⟨he, .inl ⟨_, rfl, hj⟩⟩
  · by_cases hpos : 0 < ns.length
    · exact back1_in L n hn l Bs n₀ b o cap ns M hM hlen h1 hpos h2 hBs0 J Jx hY W hc' (fun j hj => (hW.cell (p := ⟨b, o + j, none⟩) (Nat.lt_of_lt_of_le h2 hn₀)).trans (h3 j hj)) h0
    · have : ns = [] := List.eq_nil_of_length_eq_zero (by omega)
      subst this
      exact (back1_nil_in n l Bs _ cap M J W hc' h0).mono fun e W' ⟨he, hj⟩ => ⟨he, .inl ⟨_, rfl, hj⟩⟩

end Go.Proofs.Ytoonkidlbnndcaa
