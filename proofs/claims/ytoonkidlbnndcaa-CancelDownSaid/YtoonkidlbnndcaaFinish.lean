/-
  A scope that its owner leaves, and none of whose tasks runs, is over: (*scope).finish.
-/
import Derived.Test.YtoonkidlbnndcaaShield
namespace Go.Proofs.Ytoonkidlbnndcaa
set_option linter.unusedVariables false
set_option linter.unusedSimpArgs false
open Go.RowKit

structure EffA where
  kind : Int
  n : Int
  m : Int
  flt : Flt

def EffA.cells (e : EffA) : List Value := [.int .i64 e.kind, .int .i64 e.n, .int .i64 e.m, .int .i64 e.flt.kind, .string e.flt.text]
/-- A slice of effects that nobody else has. -/
def EOwn (κ : Kap) (w : World) (v : Value) (es : List EffA) : Prop := w.ownsRow 0 62 5 v es.length (es.flatMap EffA.cells) ∧ ∀ b, v.ownBlock = some b → κ b = none

section
variable {κ : Kap} {L : Lay} {T : TreeA} {w w' : World}

theorem neq_scopes (R : Rep κ L T w) {i j : Nat} (hi : i < T.scopes.length) (hj : j < T.scopes.length) :
    (binOp .neq 109 (.pointer (some ⟨L.sb i, 0, none⟩)) (.pointer (some ⟨L.sb j, 0, none⟩))).run Try.prog w = .ok (.bool (!decide (i = j))) w := by
  obtain ⟨inf, hinf, hsz0⟩ := Option.map_eq_some_iff.1 Try.infoSc
  have hsz : inf.size ≠ 0 := by omega
  by_cases e : i = j
  · subst e
    have h : ∀ d : Nat, (Op.equalIn (d + 1) 109 (.pointer (some ⟨L.sb i, 0, none⟩)) (.pointer (some ⟨L.sb i, 0, none⟩))).run Try.prog w = .ok true w := fun d => by
      simp [Op.equalIn, run_underlying Try.underlying109, sizeOf, typeInfo, hinf, run_sameAddr_same]
    simp only [binOp]
    simp [Op.equal, Op.maxDepth, h 9999]
  · have hi' := R.scope i _ (List.getElem?_eq_getElem hi)
    have hj' := R.scope j _ (List.getElem?_eq_getElem hj)
    have hne : (⟨L.sb i, 0, none⟩ : Addr) ≠ ⟨L.sb j, 0, none⟩ := fun h => by
      have hb : L.sb i = L.sb j := by injection h
      have k1 := R.kscope i _ (List.getElem?_eq_getElem hi)
      have k2 := R.kscope j _ (List.getElem?_eq_getElem hj)
      rw [hb, k2] at k1
      simp at k1
      exact e k1.symm
    have h : ∀ d : Nat, (Op.equalIn (d + 1) 109 (.pointer (some ⟨L.sb i, 0, none⟩)) (.pointer (some ⟨L.sb j, 0, none⟩))).run Try.prog w = .ok false w := fun d => by
      simp [Op.equalIn, run_underlying Try.underlying109, sizeOf, typeInfo, hinf, hsz, run_sameAddr_other w hne hi' hj']
    simp only [binOp]
    simp [Op.equal, Op.maxDepth, h 9999, e]

theorem neq_nil_left {W : World} (a : Addr) : (binOp .neq 109 (.pointer none) (.pointer (some a))).run Try.prog W = .ok (.bool true) W := by
  have h : ∀ d : Nat, (Op.equalIn (d + 1) 109 (.pointer none) (.pointer (some a))).run Try.prog W = .ok false W := fun d => by
    obtain ⟨inf, hinf, hsz0⟩ := Option.map_eq_some_iff.1 Try.infoSc
    simp [Op.equalIn, run_underlying Try.underlying109, sizeOf, typeInfo, hinf]
  simp only [binOp]
  simp [Op.equal, Op.maxDepth, h 9999]

/-- When a scope is over. -/
def fin? (x : TaskA) (s : ScopeA) (i : Nat) : Prop := x.leaving = true ∧ x.opn.getLast? = some (i + 1) ∧ s.live ≤ 0

set_option maxRecDepth 100000 in
theorem finish_no (R : Rep κ L T w) {i o : Nat} {s : ScopeA} {x : TaskA} (hs : T.scopes[i]? = some s) (ho : s.owner = o + 1) (hx : T.tasks[o]? = some x) (hle : ∀ n ∈ x.opn, n ≤ T.scopes.length) (h : ¬ fin? x s i) :
    Calls Try.prog 86 #[.pointer (some ⟨L.sb i, 0, none⟩)] w fun e w' => e = .returned (.slice none 0 0) ∧ ∃ k, w' = w.drewN k := by
  obtain ⟨_, d1, _, _, _, d5, _⟩ := R.scells hs
  rw [ho, Lay.tp_succ] at d1
  obtain ⟨_, _, _, c3, _⟩ := R.tcells hx
  have hil := (List.getElem?_eq_some_iff.1 hs).1
  by_cases hemp : x.opn = []
  · have C := Lib.hid (inner_none R hx hemp)
    generalize hlv : x.leaving = lv at *
    clear R hs ho hx hle h hemp hlv
    cases lv
    all_goals
      go_enter Try.func86, Try.ntmps86
      go_wp2_with (go_at_call 78; refine C.out.mono ?_; rintro e w' ⟨rfl, rfl⟩)
      go_ret
      exact ⟨rfl, 0, rfl⟩
  obtain ⟨l, m, hlm⟩ : ∃ l m, x.opn = l ++ [m] := ⟨_, _, (List.dropLast_concat_getLast hemp).symm⟩
  have C := inner_some R hx hlm
  have hm := hle m (by rw [hlm]; simp)
  unfold fin? at h
  rw [hlm] at h
  simp only [List.getLast?_append, List.getLast?_singleton, Option.some_or, Option.some.injEq] at h
  by_cases hlv : x.leaving = true
  · rw [hlv] at c3
    by_cases hmi : m = i + 1
    · have hlive : 0 < s.live := by
        have h := h
        simp only [hlv, hmi, true_and] at h
        omega
      have hq := neq_scopes R hil hil
      subst hmi
      rw [Lay.sp_succ] at C
      simp only [decide_true, Bool.not_true] at hq
      have C := Lib.hid C
      have HQ : Hid (∀ k, (binOp .neq 109 (.pointer (some ⟨L.sb i, 0, none⟩)) (.pointer (some ⟨L.sb i, 0, none⟩))).run Try.prog (w.drewN k) = .ok (.bool false) (w.drewN k)) := fun k => by
        have := neq_scopes (R.drewN k) hil hil
        simpa using this
      clear R hs ho hx hle h hemp hlv hlm hq hm
      go_enter Try.func86, Try.ntmps86
      go_wp2_with (go_at_call 78; refine C.out.mono ?_; rintro e w' ⟨rfl, k, rfl⟩; have hq := HQ.out k)
      go_ret
      exact ⟨rfl, _, rfl⟩
    · by_cases hm0 : m = 0
      · subst hm0
        rw [Lay.sp_zero] at C
        have C := Lib.hid C
        have hq := fun W => neq_nil_left (W := W) ⟨L.sb i, 0, none⟩
        clear R hs ho hx hle h hemp hlv hlm hm hmi
        go_enter Try.func86, Try.ntmps86
        go_wp2_with (go_at_call 78; refine C.out.mono ?_; rintro e w' ⟨rfl, k, rfl⟩)
        go_ret
        exact ⟨rfl, _, rfl⟩
      · have hsp : L.sp m = .pointer (some ⟨L.sb (m - 1), 0, none⟩) := by simp [Lay.sp, hm0]
        rw [hsp] at C
        have C := Lib.hid C
        have HQ : Hid (∀ k, (binOp .neq 109 (.pointer (some ⟨L.sb (m - 1), 0, none⟩)) (.pointer (some ⟨L.sb i, 0, none⟩))).run Try.prog (w.drewN k) = .ok (.bool true) (w.drewN k)) := fun k => by
          have := neq_scopes (R.drewN k) (i := m - 1) (j := i) (by omega) hil
          rw [decide_eq_false (by omega)] at this
          simpa using this
        clear R hs ho hx hle h hemp hlv hlm hm hmi hm0 hsp
        go_enter Try.func86, Try.ntmps86
        go_wp2_with (go_at_call 78; refine C.out.mono ?_; rintro e w' ⟨rfl, k, rfl⟩; have hq := HQ.out k)
        go_ret
        exact ⟨rfl, _, rfl⟩
  · have hlv' : x.leaving = false := by simpa using hlv
    rw [hlv'] at c3
    have C := Lib.hid C
    generalize L.sp m = p at *
    clear R hs ho hx hle h hemp hlv hlm hlv' hm
    go_enter Try.func86, Try.ntmps86
    go_wp2_with (go_at_call 78; refine C.out.mono ?_; rintro e w' ⟨rfl, k, rfl⟩)
    go_ret
    exact ⟨rfl, _, rfl⟩

end
end Go.Proofs.Ytoonkidlbnndcaa
