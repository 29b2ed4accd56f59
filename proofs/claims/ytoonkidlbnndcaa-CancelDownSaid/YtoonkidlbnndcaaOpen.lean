/-
  A scope more: (*Tree).Open.
-/
import Derived.Test.YtoonkidlbnndcaaNew
namespace Go.Proofs.Ytoonkidlbnndcaa
set_option linter.unusedVariables false
set_option linter.unusedSimpArgs false
open Go.RowKit

def ScopeA.new (owner : Nat) (sup : Bool) : ScopeA := ⟨owner, sup, false, [], 0, .none⟩

section
variable {κ : Kap} {L : Lay} {T : TreeA} {w : World}

/-- The cells of a new scope, one more than n are there. -/
def newScope (L : Lay) (n owner : Nat) (sup : Bool) : Array Value := #[.int .i64 ((n : Int) + 1), L.tp owner, .bool sup, .bool false, .slice none 0 0, .int .i64 0, .int .i64 0, .string ⟨#[]⟩]

theorem sadd_cells (R : Rep κ L T w) (o : Nat) (p : Bool) {w1 : World} (hg : (w.alloc (.cells (newScope L T.scopes.length o p) 113)).grownBy w1 L.ss.ownBlock) :
    w1.cell? ⟨L.t, 1, none⟩ = some L.ss ∧ w1.frozen? ⟨L.t, 1, none⟩ = false ∧ w1.cell? ⟨w.heap.size, 0, none⟩ = some (.int .i64 ((T.scopes.length : Int) + 1)) ∧
    Blk w1 L.t 107 #[L.ts, L.ss] ∧ Blk w1 w.heap.size 113 (newScope L T.scopes.length o p) := by
  have h1 : Blk w1 L.t 107 #[L.ts, L.ss] := (R.tree.alloc _).grown hg (fun h => by have := R.kss _ h; rw [R.ktree] at this; cases this)
  have h2 : Blk w1 w.heap.size 113 (newScope L T.scopes.length o p) := (Blk.new w _ _).grown hg (fun h => by have := R.lt _ _ (R.kss _ h); omega)
  exact ⟨h1.cell 1 rfl, h1.frozen 1, h2.cell 0 rfl, h1, h2⟩

/-- Where it all lies behind a new scope in block b. -/
def Lay.moreS (L : Lay) (n b : Nat) (v : Value) : Lay := { L with ss := v, sb := upd L.sb n b, kv := upd L.kv n (.slice none 0 0) }

theorem sadd_mem (R : Rep κ L T w) (o : Nat) (p : Bool) (hin : ∀ (i : Nat) (s : TaskA), T.tasks[i]? = some s → s.inn ≤ T.scopes.length) (hopn : ∀ (i : Nat) (s : TaskA), T.tasks[i]? = some s → ∀ n ∈ s.opn, n ≤ T.scopes.length)
    {w1 : World} {g cap : Nat} (hg : (w.alloc (.cells (newScope L T.scopes.length o p) 113)).grownBy w1 L.ss.ownBlock)
    (hv : w1.ownsRow 0 109 1 (.slice (some ⟨g, 0, none⟩) (T.scopes.length + 1) cap) (T.scopes.length + 1) (((List.range T.scopes.length).map fun i => .pointer (some ⟨L.sb i, 0, none⟩)) ++ [.pointer (some ⟨w.heap.size, 0, none⟩)]))
    (hat : L.ss.ownBlock = some g ∨ w.heap.size + 1 ≤ g) :
    ∃ κ', Rep κ' (L.moreS T.scopes.length w.heap.size (.slice (some ⟨g, 0, none⟩) (T.scopes.length + 1) cap)) { T with scopes := T.scopes ++ [.new o p] } (w1.setCell ⟨L.t, 1, none⟩ (.slice (some ⟨g, 0, none⟩) (T.scopes.length + 1) cap)) ∧
      Ext κ κ' w (w1.setCell ⟨L.t, 1, none⟩ (.slice (some ⟨g, 0, none⟩) (T.scopes.length + 1) cap)) ∧ κ' w.heap.size = some (.scope T.scopes.length) := by
  obtain ⟨_, _, _, hB, hN⟩ := sadd_cells R o p hg
  have hs : w.heap.size + 1 ≤ w1.heap.size := by have := hg.size; simpa using this
  have hgl : g < w1.heap.size := (hv.lt g rfl).2
  have hbg : w.heap.size ≠ g := by
    rintro e
    rcases hat with hat | hat
    · have := R.lt _ _ (R.kss _ hat); omega
    · omega
  have hs1 : (w1.setCell ⟨L.t, 1, none⟩ (.slice (some ⟨g, 0, none⟩) (T.scopes.length + 1) cap)).heap.size = w1.heap.size := by simp [World.setCell]
  obtain ⟨n1, n2, n3, n4, n5⟩ := R.names (b := w.heap.size) (g := g) (tb := .scope T.scopes.length) (tg := .sarr) (v := L.ss) (Nat.le_refl _) R.kss hat hbg
    (w' := w1.setCell ⟨L.t, 1, none⟩ (.slice (some ⟨g, 0, none⟩) (T.scopes.length + 1) cap)) (by omega) (by omega) (by omega)
  have hne : g ≠ L.t := by
    rintro rfl
    rcases hat with hat | hat
    · have := R.kss _ hat; rw [R.ktree] at this; cases this
    · have := R.lt _ _ R.ktree; omega
  have hsame : ∀ b t, κ b = some t → t ≠ .tree → t ≠ .sarr → (w1.setCell ⟨L.t, 1, none⟩ (.slice (some ⟨g, 0, none⟩) (T.scopes.length + 1) cap)).heap[b]? = w.heap[b]? := fun b t hb h1 h2 => by
    have hlt := R.lt b t hb
    rw [Below.heap_setCell _ _ _ _ (fun e => by subst e; rw [R.ktree] at hb; cases hb; exact h1 rfl)]
    rw [hg.block b (by simp; omega) (fun e => by have := R.kss _ e.symm; rw [hb] at this; cases this; exact h2 rfl)]
    exact Below.heap_alloc w _ b hlt
  refine ⟨_, R.addScope (κ' := (κ.set w.heap.size (.scope T.scopes.length)).set g .sarr) (.new o p) w.heap.size (.slice (some ⟨g, 0, none⟩) (T.scopes.length + 1) cap) hin hopn n1 n2 rfl ?_ ?_ n3 ?_ ?_ hsame, ?_, n3⟩
  · exact hB.set_ 1 _
  · have e : Lay.scells { L with ss := .slice (some ⟨g, 0, none⟩) (T.scopes.length + 1) cap, sb := upd L.sb T.scopes.length w.heap.size, kv := upd L.kv T.scopes.length (.slice none 0 0) } T.scopes.length (.new o p) = newScope L T.scopes.length o p := by
      have h := upd_same L.kv T.scopes.length (.slice none 0 0)
      unfold Lay.scells newScope
      simp only [h]
      rfl
    rw [e]
    exact hN.far (fun (e : w.heap.size = L.t) => by have := R.tree.lt; omega) _
  · exact ownsRow_setCell_other hv (by simp [Value.ownBlock, hne]) _
  · intro x hx
    have : x = g := by simpa [Value.ownBlock] using hx.symm
    subst this
    exact n4
  · refine Ext.name (κ' := κ) (Ext.setCell ?_ (by rw [R.ktree]; simp) _) n5
    exact ((Ext.refl κ w).alloc _).grown hg (fun b hb => by rw [R.kss b hb]; simp)

theorem opn_cells (R : Rep κ L T w) {i : Nat} {x : TaskA} (hx : T.tasks[i]? = some x) {w1 : World} (hg : w.grownBy w1 (L.ov i).ownBlock) : Blk w1 (L.tb i) 111 (L.tcells i x) :=
  (R.task i x hx).grown hg (fun h => by have := R.kopn i x hx _ h; rw [R.ktask i x hx] at this; cases this)

theorem opn_mem (R : Rep κ L T w) {i : Nat} {x : TaskA} (hx : T.tasks[i]? = some x) (l : List Nat)
    {w1 : World} {g cap : Nat} (hg : w.grownBy w1 (L.ov i).ownBlock)
    (hv : w1.ownsRow 0 109 1 (.slice (some ⟨g, 0, none⟩) l.length cap) l.length (l.map L.sp)) (hat : (L.ov i).ownBlock = some g ∨ w.heap.size ≤ g) :
    ∃ κ', Rep κ' { L with ov := upd L.ov i (.slice (some ⟨g, 0, none⟩) l.length cap) } { T with tasks := T.tasks.set i { x with opn := l } }
        (w1.setCell ⟨L.tb i, 2, none⟩ (.slice (some ⟨g, 0, none⟩) l.length cap)) ∧
      Ext κ κ' w (w1.setCell ⟨L.tb i, 2, none⟩ (.slice (some ⟨g, 0, none⟩) l.length cap)) := by
  have hB := opn_cells R hx hg
  have hgl : g < w1.heap.size := (hv.lt g rfl).2
  have ks := R.ktask i x hx
  have hne : g ≠ L.tb i := by
    rintro rfl
    rcases hat with hat | hat
    · have := R.kopn i x hx _ hat; rw [ks] at this; cases this
    · have := R.lt _ _ ks; omega
  obtain ⟨n1, n2, n3, n4⟩ := R.names1 (g := g) (tg := .opn i) (v := L.ov i) (R.kopn i x hx) hat
    (w' := w1.setCell ⟨L.tb i, 2, none⟩ (.slice (some ⟨g, 0, none⟩) l.length cap)) (by have := hg.size; simpa [World.setCell] using this) (by simpa [World.setCell] using hgl)
  refine ⟨κ.set g (.opn i), R.setOpn (κ' := κ.set g (.opn i)) (i := i) hx (.slice (some ⟨g, 0, none⟩) l.length cap) n1 n2 ?_ ?_ ?_ ?_, ?_⟩
  · have e : Lay.tcells { L with ov := upd L.ov i (.slice (some ⟨g, 0, none⟩) l.length cap) } i { x with opn := l } =
        (L.tcells i x).setIfInBounds 2 (.slice (some ⟨g, 0, none⟩) l.length cap) := by
      have h := upd_same L.ov i (.slice (some ⟨g, 0, none⟩) l.length cap)
      unfold Lay.tcells
      simp only [h]
      rfl
    rw [e]
    exact hB.set_ 2 _
  · exact ownsRow_setCell_other hv (by simp [Value.ownBlock, hne]) _
  · intro x hx
    have : x = g := by simpa [Value.ownBlock] using hx.symm
    subst this
    exact n3
  · intro b t hb h1 h2
    have hlt := R.lt b t hb
    have hbs : b ≠ L.tb i := fun e => by subst e; rw [ks] at hb; cases hb; exact h1 rfl
    rw [Below.heap_setCell _ _ _ _ hbs]
    exact hg.block b hlt (fun e => by have := R.kopn i x hx _ e.symm; rw [hb] at this; cases this; exact h2 rfl)
  · refine Ext.name (κ' := κ) (Ext.setCell ?_ (by rw [ks]; simp) _) n4
    exact (Ext.refl κ w).grown hg (fun b hb => by rw [R.kopn i x hx b hb]; simp)

end
end Go.Proofs.Ytoonkidlbnndcaa
