/-
  A region that draws its order, walked plainly within a round of a range over a function.
  The way up from a task: (*Tree).Chain: what it is, and the bookkeeping of its loop.
-/
import Derived.Deep.RegionLaw
import Derived.OrdersIn
import Derived.RangeFuncCalls
import Derived.BigRegion
import Derived.WalkKit
import Derived.Test.YtoonkidlbnndcaaTask
import Derived.Test.YtoonkidlbnndcaaBack2
import Derived.StillTailTactics
import Derived.Deep.LoopGhost
namespace Go.Proofs.Ytoonkidlbnndcaa
set_option linter.unusedVariables false
set_option linter.unusedSimpArgs false
open Go

theorem rowsIn_round {l n : Nat} {P : Program} {row : String} {args : Array Value} {w : World} {R : Value → World → Prop} (h : Rows P row args w R) : RowsIn (Fence.wide.inRound l) n P row args w R :=
  fun c cs _ => let ⟨v, w', r, s⟩ := h c cs; ⟨v, w', r, stepsIn_wide.2 s⟩

theorem operIn_round {l n : Nat} {P : Program} {o : Oper} {a : Act} {w : World} {K : Act → World → Prop} {Q : Exit → Act → World → Prop} (hd : ∀ c, o.op ≠ .defer c) (h : o.wp P a w K Q) : o.wpIn (Fence.wide.inRound l) n P a w K Q := by
  refine ⟨fun _ _ => trivial, ?_⟩
  rw [Oper.semAt_eq _ _ _ hd]
  unfold Oper.wp at h
  generalize (execOp a.eval o).run P w = r at h
  unfold Oper.upon at h
  split at h
  · exact h
  · exact h
  · exact h
  · exact ⟨fun h => by simp [Fence.wide] at h, CallsIn.inRound l (callsIn_wide.2 h)⟩
  · exact ⟨fun h => by simp [Fence.wide] at h, rowsIn_round h⟩
  · exact h
  · exact h.elim

theorem wpAnyIn_round {l n : Nat} {P : Program} {md : Region.Mode} {ops : Array Oper} {Q : Exit → Act → World → Prop} (hd : ∀ (i : Nat) (o : Oper), ops[i]? = some o → ∀ c, o.op ≠ .defer c) (hQ : ¬ LetsOut Q) :
    ∀ (fuel : Nat) (listed : Array Bool) (a : Act) (w : World), wpAny P md ops Q fuel listed a w → wpAnyIn (Fence.wide.inRound l) n P md ops Q fuel listed a w
  | 0, _, _, _, h => h
  | fuel + 1, listed, a, w, h => ⟨h.1, fun i hi => by
      have hh := h.2 i hi
      unfold wpOp at hh
      unfold wpOpIn
      cases ho : ops[i]? with
      | none =>
        rw [ho] at hh
        exact wpAnyIn_round hd hQ fuel _ _ _ hh
      | some o =>
        rw [ho] at hh
        simp only at hh ⊢
        by_cases hw : Region.wanted o (yielded ops a.tmps) = true
        · rw [if_pos hw] at hh ⊢
          have h1 : o.wp P a w (wpAny P md ops Q fuel (listed.setIfInBounds i true)) Q := hh.resolve_right (fun k => hQ k.2)
          exact operIn_round (hd i o ho) (Go.Oper.wp_mono (fun a w => wpAnyIn_round hd hQ fuel _ a w) h1)
        · rw [if_neg hw] at hh ⊢
          exact ⟨fun _ _ => trivial, wpAnyIn_round hd hQ fuel _ _ _ hh⟩⟩

def noDefer (o : Oper) : Bool := match o.op with
  | .defer _ => false
  | _ => true

theorem noDefer_all {ops : Array Oper} (h : ops.all noDefer = true) (i : Nat) (o : Oper) (ho : ops[i]? = some o) (c : Call) : o.op ≠ .defer c := by
  intro e
  have := Array.all_eq_true.1 h i (Array.getElem?_eq_some_iff.1 ho).1
  rw [(Array.getElem?_eq_some_iff.1 ho).2, noDefer, e] at this
  simp at this

theorem wpIn_region_round {l n : Nat} {P : Program} {ops : Array Oper} {Q : Exit → Act → World → Prop} {id : Nat} {a : Act} {w : World} (hm : P.follows .mixedOrders = true) (hd : ops.all noDefer = true) (hQ : ¬ LetsOut Q)
    (h : wpAny P .any ops Q ops.size (Array.replicate ops.size false) a w.drew) : (Code.region id ops true).wpIn (Fence.wide.inRound l) n P Q a w :=
  wpIn_region_any hm (wpAnyIn_round (noDefer_all hd) hQ _ _ _ _ h)

end Go.Proofs.Ytoonkidlbnndcaa

namespace Go.Proofs.Ytoonkidlbnndcaa
set_option linter.unusedVariables false
set_option linter.unusedSimpArgs false
open Go.RowKit Go.Shelf

attribute [local go_sem] Oper.semAt_some

abbrev LinkA := Int × Nat
def lnk (m : Nat) : LinkA := (lk m, m)
def LinkA.cells (p : LinkA) : List Value := [.int .i64 p.1, .int .i64 (p.2 : Int)]

/-- The way up: what of task i's open links lies below top, the task, the scope in which it lies, and so on. -/
def chainN (T : TreeA) : Nat → Nat → Nat → List LinkA
  | 0, _, _ => []
  | f + 1, i, top => match T.tasks[i]? with
    | none => []
    | some x => (x.opn.take top).reverse.map lnk ++ (1, i + 1) :: (if x.inn = 0 then [] else lnk x.inn :: match T.scopes[x.inn - 1]? with
      | none => []
      | some s => match T.tasks[s.owner - 1]? with
        | none => []
        | some y => chainN T f (s.owner - 1) ((placeOf x.inn y.opn).getD 0))

/-- A running task's scope lies in the links of a running task of a lesser number. -/
def UpOk (T : TreeA) : Prop := ∀ (i j : Nat) (x : TaskA), T.tasks[i]? = some x → x.ended = false → x.inn = j + 1 →
  ∃ (s : ScopeA) (o k : Nat) (y : TaskA), T.scopes[j]? = some s ∧ s.owner = o + 1 ∧ o < i ∧ T.tasks[o]? = some y ∧ y.ended = false ∧ placeOf (j + 1) y.opn = some k ∧ k < y.opn.length

/-- The mark of a range over a function among a frame's deferred calls. -/
def mark (D : Nat) : Deferred := { target := .collected D, args := #[] }
structure Marks (m : Nat) (ds : List Nat) (W : World) : Prop where
  pw : ds.Pairwise (fun a b => b < a)
  held : ∀ D ∈ ds, W.heap[D]? = some (.deferred (some []))
  ge : ∀ D ∈ ds, m ≤ D

/-- The block m holds a slice of these links. -/
def Acc (m : Nat) (W : World) (acc : List LinkA) : Prop := ∃ v, Blk W m 30 #[v] ∧ W.ownsRow 0 37 2 v acc.length (acc.flatMap LinkA.cells) ∧ ∀ b, v.ownBlock = some b → m + 1 ≤ b

section
variable {κ κ' : Kap} {L : Lay} {T : TreeA} {w w' : World}

theorem chain_nil (n : Int) (w : World) : Calls Try.prog 45 #[.pointer none, .int .i64 n] w fun e w' => e = .returned (.tuple #[.slice none 0 0, .int .i64 2]) ∧ w = w' := by
  refine (callsIn_wide (n := 4)).1 ?_
  refine callsIn_of_wp_marks Try.func45 rfl trivial (wpIn_wide.2 ?_) rfl
  simp only [Try.ntmps45, List.size_toArray, List.length_cons, List.length_nil, Nat.reduceAdd, Nat.reduceSub, Array.replicate_succ, Array.replicate_zero, List.push_toArray, List.append_toArray, List.nil_append, List.cons_append]
  go_wp2_with (go_at_call 74; refine (runs_nil _ _).mono ?_; rintro e w' ⟨rfl, rfl⟩)
  exact ⟨_, results_tmp2 rfl _ _ _, rfl, rfl⟩
theorem chain_none (R : Rep κ L T w) {n : Int} (h : T.run? n = none) :
    Calls Try.prog 45 #[.pointer (some ⟨L.t, 0, none⟩), .int .i64 n] w fun e w' => e = .returned (.tuple #[.slice none 0 0, .int .i64 6]) ∧ w = w' := by
  have C := Lib.hid (runs_none R h)
  clear R h
  refine (callsIn_wide (n := 4)).1 ?_
  refine callsIn_of_wp_marks Try.func45 rfl trivial (wpIn_wide.2 ?_) rfl
  simp only [Try.ntmps45, List.size_toArray, List.length_cons, List.length_nil, Nat.reduceAdd, Nat.reduceSub, Array.replicate_succ, Array.replicate_zero, List.push_toArray, List.append_toArray, List.nil_append, List.cons_append]
  go_wp2_with (go_at_call 74; refine C.out.mono ?_; rintro e w' ⟨rfl, rfl⟩)
  exact ⟨_, results_tmp2 rfl _ _ _, rfl, rfl⟩

theorem noncells_ne {W : World} {k b : Nat} {o : Obj} {c : Array Value} {e : TypeId} (hk : W.heap[k]? = some o) (ho : o.isCells = false) (hb : W.heap[b]? = some (.cells c e (0, 0))) : k ≠ b := by
  rintro rfl
  rw [hk] at hb
  cases hb
  cases ho

theorem own_block {w : World} {e size n : Nat} {v : Value} {xs : List Value} (hv : w.ownsRow 0 e size v n xs) {b : Nat} (hb : v.ownBlock = some b) : ∃ c, w.heap[b]? = some (.cells c e (0, 0)) := by
  rcases hv.2 with ⟨rfl, _⟩ | ⟨g, cap, cur, rfl, _, hg, _⟩
  · cases hb
  · have : g = b := by simpa [Value.ownBlock] using hb
    subst this
    exact ⟨_, hg⟩

theorem Acc.same {m : Nat} {W W' : World} {acc : List LinkA} (h : Acc m W acc) (hs : ∀ (b : Nat) (c : Array Value) (e : TypeId), W.heap[b]? = some (.cells c e (0, 0)) → W'.heap[b]? = W.heap[b]?) : Acc m W' acc := by
  obtain ⟨v, h1, h2, h3⟩ := h
  exact ⟨v, h1.of (hs _ _ _ h1), owns_of h2 (fun b hb => by obtain ⟨c, hc⟩ := own_block h2 hb; exact hs _ _ _ hc), h3⟩

theorem Acc.below {m : Nat} {W W' : World} {acc : List LinkA} (h : Acc m W acc) (hb : Below W.heap.size W W') : Acc m W' acc :=
  h.same fun b _ _ hh => hb.block b (Array.getElem?_eq_some_iff.1 hh).1

theorem cells_kept {W W' : World} {row : Option Nat} (hg : W.grownBy W' row) (hr : ∀ r, row = some r → ∃ o : Obj, W.heap[r]? = some o ∧ o.isCells = false) (b : Nat) (c : Array Value) (e : TypeId) (hb : W.heap[b]? = some (.cells c e (0, 0))) : W'.heap[b]? = W.heap[b]? :=
  hg.block b (Array.getElem?_eq_some_iff.1 hb).1 fun e' => by
    obtain ⟨o, ho, hc⟩ := hr b e'.symm
    exact noncells_ne ho hc hb rfl

theorem Marks.same {m : Nat} {ds : List Nat} {W W' : World} (h : Marks m ds W) (hs : ∀ (b : Nat) (o : Obj), W.heap[b]? = some o → o.isCells = false → W'.heap[b]? = W.heap[b]?) : Marks m ds W' :=
  ⟨h.pw, fun D hD => (hs D _ (h.held D hD) rfl).trans (h.held D hD), h.ge⟩
theorem Marks.lt {m : Nat} {ds : List Nat} {W : World} (h : Marks m ds W) {D : Nat} (hD : D ∈ ds) : D < W.heap.size := (Array.getElem?_eq_some_iff.1 (h.held D hD)).1
theorem Marks.below {m : Nat} {ds : List Nat} {W W' : World} (h : Marks m ds W) (hb : Below W.heap.size W W') : Marks m ds W' := h.same fun b _ hh _ => hb.block b (Array.getElem?_eq_some_iff.1 hh).1

/-- A push onto the list in the block m: what lies elsewhere lies as it lay. -/
theorem push_same {W w5 w6 : World} {m : Nat} {v u : Value} {ob : Obj} (hb5 : Below W.heap.size W w5) (hg : (w5.alloc ob).grownBy w6 v.ownBlock) {k : Nat} (hk : k < W.heap.size) (h1 : k ≠ m) (h2 : v.ownBlock ≠ some k) :
    (w6.setCell ⟨m, 0, none⟩ u).heap[k]? = W.heap[k]? := by
  have hk5 : k < w5.heap.size := Nat.lt_of_lt_of_le hk hb5.size
  rw [Below.heap_setCell w6 ⟨m, 0, none⟩ u k h1, hg.block k (by simp; omega) (fun e => h2 e.symm), Below.heap_alloc w5 ob k hk5]
  exact hb5.block k hk

theorem Acc.pushed {m n : Nat} {w6 : World} {v0 : Value} {g2 cap2 : Nat} {acc : List LinkA} {p : LinkA} (hO : Blk w6 m 30 #[v0]) (hown : w6.ownsRow 0 37 2 (.slice (some ⟨g2, 0, none⟩) (n + 1) cap2) (n + 1) (acc.flatMap LinkA.cells ++ p.cells)) (hn : n = acc.length) (hg2 : m + 1 ≤ g2) :
    Acc m (w6.setCell ⟨m, 0, none⟩ (.slice (some ⟨g2, 0, none⟩) (n + 1) cap2)) (acc ++ [p]) := by
  subst hn
  refine ⟨_, hO.set_ 0 _, ?_, fun b hb => ?_⟩
  · rw [List.length_append, List.flatMap_append]
    simp only [List.length_cons, List.length_nil, List.flatMap_cons, List.flatMap_nil, List.append_nil]
    exact ownsRow_setCell_other hown (by simp [Value.ownBlock]; omega) _
  · have hb : g2 = b := by simpa [Value.ownBlock] using hb
    omega

/-- At a frame's end the marks go, one by one. -/
theorem leaves_marks {P : Program} {F : Fence} {n : Nat} {fn : Func} {tmps : Array Value} {R : Ending → World → Prop} {m : Nat} : ∀ (ds : List Nat) (W : World), Marks m ds W →
    (∀ W', Below 0 W W → (∀ (b : Nat) (c : Array Value) (e : TypeId), W.heap[b]? = some (.cells c e (0, 0)) → W'.heap[b]? = W.heap[b]?) → (∀ b, b ∉ ds → W'.heap[b]? = W.heap[b]?) → W'.heap.size = W.heap.size → W'.os = W.os → W'.tape = W.tape → W'.output = W.output →
      LeavesIn F n P fn tmps R [] .returning W') → LeavesInM F n P fn tmps R (ds.map mark) .returning W
  | [], W, _, h => h W (Below.refl _ _) (fun _ _ _ _ => rfl) (fun _ _ => rfl) rfl rfl rfl rfl
  | D :: ds, W, hM, h => by
    have hD := hM.held D (List.mem_cons_self ..)
    have hM' : Marks m ds (W.putObj D (.deferred none)) := by
      refine ⟨(List.pairwise_cons.1 hM.pw).2, fun D' hD' => ?_, fun D' hD' => hM.ge D' (List.mem_cons_of_mem _ hD')⟩
      have hlt := (List.pairwise_cons.1 hM.pw).1 D' hD'
      rw [World.putObj_heap_other (by omega)]
      exact hM.held D' (List.mem_cons_of_mem _ hD')
    refine ⟨by simp, .inl ⟨D, _, rfl, run_takeDeferred hD, leaves_marks ds _ hM' fun W' _ h1 h2 h3 h4 h5 h6 => h W' (Below.refl _ _) ?_ ?_ ?_ h4 h5 h6⟩⟩
    · intro b c e hb
      have hne : b ≠ D := fun e' => by subst e'; rw [hD] at hb; cases hb
      have hb' : (W.putObj D (.deferred none)).heap[b]? = W.heap[b]? := World.putObj_heap_other hne
      exact (h1 b c e (hb'.trans hb)).trans hb'
    · intro b hb
      have hne : b ≠ D := fun e' => hb (by rw [e']; exact List.mem_cons_self ..)
      exact (h2 b (fun h' => hb (List.mem_cons_of_mem _ h'))).trans (World.putObj_heap_other hne)
    · rw [h3]; simp

theorem backS_rev {ns : List Nat} {M : Nat} (h : ∀ n ∈ ns, n ≤ M) : (backS h ns.length).map (fun p => lnk p.1.2) = ns.reverse.map lnk := by
  have : (backS h ns.length).map (fun p => lnk p.1.2) = ((backS h ns.length).map (·.1)).map (fun p => lnk p.2) := by rw [List.map_map]; rfl
  rw [this, backS_val, backTo, List.map_map]
  refine List.ext_getElem (by simp) fun j h1 h2 => ?_
  simp at h1
  simp only [List.getElem_map, List.getElem_range, List.getElem_reverse, Function.comp]
  rw [List.getElem?_eq_getElem (by omega)]
  rfl

end
end Go.Proofs.Ytoonkidlbnndcaa
