/-
  The running tasks below a scope: (*Tree).Below itself.
-/
import Derived.Test.YtoonkidlbnndcaaBelowT
namespace Go.Proofs.Ytoonkidlbnndcaa
set_option linter.unusedVariables false
set_option linter.unusedSimpArgs false
open Go.RowKit

@[local go_sem] theorem run_store_func {P : Program} {w : World} {a : Addr} (f : Fn) (x y : Array Value) (m : Mode) : (store a (.func f x y) m).run P w = stored P w a (.func f x y) m := run_store P w a _ m rfl

section
variable {κ κ' : Kap} {L : Lay} {T : TreeA} {w w' : World}

set_option maxRecDepth 100000 in
set_option maxHeartbeats 1000000 in
theorem belowT_ok (R : Rep κ L T w) (D : DownOk T) (hopn : ∀ (i : Nat) (x : TaskA), T.tasks[i]? = some x → ∀ n ∈ x.opn, n ≤ T.scopes.length) (hkl : ∀ (j : Nat) (s : ScopeA), T.scopes[j]? = some s → s.kids.length ≤ 1000)
    {n : Int} {j : Nat} (h : T.scope? n = some j) (hlen : (belowN T (T.scopes.length + 1) j).length ≤ 100000) :
    Calls Try.prog 44 #[.pointer (some ⟨L.t, 0, none⟩), .int .i64 n] w fun e w' => ∃ v, e = .returned (.tuple #[v, .int .i64 0]) ∧
      w'.ownsRow 0 3 1 v (belowN T (T.scopes.length + 1) j).length ((belowN T (T.scopes.length + 1) j).map intCell) ∧ Fresh w v ∧ Below w.heap.size w w' := by
  have C := Lib.hid (scope_some R h)
  obtain ⟨hn, s, hs⟩ := TreeA.scope?_some h
  have hj : j < T.scopes.length := (List.getElem?_eq_some_iff.1 hs).1
  have B : Hid (∀ W, Below w.heap.size w W → BW w.heap.size W [] → Calls Try.prog 71 #[.pointer (some ⟨L.sb j, 0, none⟩), .pointer (some ⟨w.heap.size, 0, none⟩), .pointer (some ⟨w.heap.size + 1, 0, none⟩)] W fun e W' =>
        (∃ v, e = .returned v) ∧ BW w.heap.size W' (belowN T (T.scopes.length + 1) j) ∧ Below w.heap.size w W') := fun W h1 h2 => by
    have := below1 R D hopn hkl (T.scopes.length + 1) j (by omega) hj [] W h1 h2 (by simpa using hlen)
    rw [List.nil_append] at this
    exact this
  generalize belowN T (T.scopes.length + 1) j = res at *
  clear R D hopn hkl h hlen hs hj hn
  go_enter Try.func44, Try.ntmps44
  have hB1 : Below w.heap.size w ((w.alloc (.cells #[.slice none 0 0] 26)).alloc (.cells #[.func (.func 71) #[] #[.pointer (some ⟨w.heap.size, 0, none⟩), .pointer (some ⟨w.heap.size + 1, 0, none⟩)]] 117)) := by go_grown
  have hB2 : BW w.heap.size ((w.alloc (.cells #[.slice none 0 0] 26)).alloc (.cells #[.func (.func 71) #[] #[.pointer (some ⟨w.heap.size, 0, none⟩), .pointer (some ⟨w.heap.size + 1, 0, none⟩)]] 117)) [] := by
    have h1 := Blk.new (w.alloc (.cells #[.slice none 0 0] 26)) 117 #[.func (.func 71) #[] #[.pointer (some ⟨w.heap.size, 0, none⟩), .pointer (some ⟨w.heap.size + 1, 0, none⟩)]]
    rw [World.size_alloc] at h1
    exact ⟨⟨.slice none 0 0, (Blk.new w 26 #[.slice none 0 0]).alloc _, World.ownsRow_nil _ _ _ _, fun b hb => by cases hb⟩, h1⟩
  have B1 := Lib.hid (B.out _ hB1 hB2)
  clear hB1 hB2 B
  have h1 := Blk.new (w.alloc (.cells #[.slice none 0 0] 26)) 117 #[.nilFunc]
  rw [World.size_alloc] at h1
  have n1 : ((w.alloc (.cells #[.slice none 0 0] 26)).alloc (.cells #[.nilFunc] 117)).cell? ⟨w.heap.size + 1, 0, none⟩ = some .nilFunc := h1.cell 0 rfl
  have n2 := h1.frozen 0
  clear h1
  go_wp2_with (first | (go_at_call 70; refine C.out.mono ?_; rintro e w' ⟨rfl, rfl⟩) | (go_at_call 71; refine B1.out.mono ?_; rintro e w3 ⟨⟨rv, rfl⟩, ⟨⟨v, hv, hvo, hvb⟩, hk3⟩, hw3⟩; have c3 := hv.cell 0 rfl; have hv := Lib.hid hv; have hvo := Lib.hid hvo; have hvb := Lib.hid hvb; have hw3 := Lib.hid hw3; have hk3 := Lib.hid hk3))
  go_returns
  exact ⟨v, rfl, hvo.out, fun b hb => by have := hvb.out b hb; omega, hw3.out⟩

end
end Go.Proofs.Ytoonkidlbnndcaa
