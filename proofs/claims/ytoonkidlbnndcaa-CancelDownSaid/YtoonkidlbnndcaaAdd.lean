/-
  A task more: (*Tree).add.
-/
import Derived.Test.YtoonkidlbnndcaaMem
import Derived.Test.YtoonkidlbnndcaaTree
namespace Go.Proofs.Ytoonkidlbnndcaa
set_option linter.unusedVariables false
set_option linter.unusedSimpArgs false
open Go.RowKit

def Flt.none : Flt := ⟨0, ⟨#[]⟩⟩
def TaskA.new (inn : Nat) : TaskA := ⟨inn, [], false, false, .none⟩

section
variable {κ : Kap} {L : Lay} {T : TreeA} {w : World}

/-- The names of a new block b and of an array g that is the old one or new. -/
theorem Rep.names (R : Rep κ L T w) {b g : Nat} {tb tg : Tag} {v : Value} (hb : w.heap.size ≤ b) (hv : ∀ x, v.ownBlock = some x → κ x = some tg) (hat : v.ownBlock = some g ∨ w.heap.size + 1 ≤ g) (hbg : b ≠ g) {w' : World} (hs : w.heap.size ≤ w'.heap.size) (h1 : b < w'.heap.size) (h2 : g < w'.heap.size) :
    (∀ x t, κ x = some t → ((κ.set b tb).set g tg) x = some t) ∧ (∀ x t, ((κ.set b tb).set g tg) x = some t → x < w'.heap.size) ∧ ((κ.set b tb).set g tg) b = some tb ∧ ((κ.set b tb).set g tg) g = some tg ∧
    (∀ x, x < w.heap.size → ((κ.set b tb).set g tg) x = κ x) := by
  refine ⟨fun x t hx => ?_, fun x t hx => ?_, ?_, Kap.set_same _ _ _, fun x hx => ?_⟩
  · have hlt := R.lt x t hx
    by_cases e : x = g
    · subst e
      rw [Kap.set_same]
      rcases hat with hat | hat
      · rw [hv _ hat] at hx; exact hx
      · omega
    · rw [Kap.set_other _ _ e, Kap.set_other _ _ (by omega)]; exact hx
  · by_cases e : x = g
    · subst e; exact h2
    · rw [Kap.set_other _ _ e] at hx
      by_cases e' : x = b
      · subst e'; exact h1
      · rw [Kap.set_other _ _ e'] at hx
        exact Nat.lt_of_lt_of_le (R.lt x t hx) hs
  · rw [Kap.set_other _ _ hbg, Kap.set_same]
  · by_cases e : x = g
    · subst e
      rw [Kap.set_same]
      rcases hat with hat | hat
      · exact (hv _ hat).symm
      · omega
    · rw [Kap.set_other _ _ e, Kap.set_other _ _ (by omega)]

/-- The cells of a new task, one more than n are there. -/
def newTask (L : Lay) (n inn : Nat) : Array Value := #[.int .i64 ((n : Int) + 1), L.sp inn, .slice none 0 0, .bool false, .bool false, .int .i64 0, .string ⟨#[]⟩]

theorem add_cells (R : Rep κ L T w) (inn : Nat) {w1 : World} (hg : (w.alloc (.cells (newTask L T.tasks.length inn) 111)).grownBy w1 L.ts.ownBlock) :
    w1.cell? ⟨L.t, 0, none⟩ = some L.ts ∧ w1.frozen? ⟨L.t, 0, none⟩ = false ∧ w1.cell? ⟨w.heap.size, 0, none⟩ = some (.int .i64 ((T.tasks.length : Int) + 1)) ∧
    Blk w1 L.t 107 #[L.ts, L.ss] ∧ Blk w1 w.heap.size 111 (newTask L T.tasks.length inn) := by
  have h1 : Blk w1 L.t 107 #[L.ts, L.ss] := (R.tree.alloc _).grown hg (fun h => by have := R.kts _ h; rw [R.ktree] at this; cases this)
  have h2 : Blk w1 w.heap.size 111 (newTask L T.tasks.length inn) := (Blk.new w _ _).grown hg (fun h => by have := R.lt _ _ (R.kts _ h); omega)
  exact ⟨h1.cell 0 rfl, h1.frozen 0, h2.cell 0 rfl, h1, h2⟩

/-- Where it all lies behind a new task in block b. -/
def Lay.more (L : Lay) (n b : Nat) (v : Value) : Lay := { L with ts := v, tb := upd L.tb n b, ov := upd L.ov n (.slice none 0 0) }

theorem add_mem (R : Rep κ L T w) (inn : Nat) (hown : ∀ (i : Nat) (s : ScopeA), T.scopes[i]? = some s → s.owner ≤ T.tasks.length) (hkid : ∀ (i : Nat) (s : ScopeA), T.scopes[i]? = some s → ∀ n ∈ s.kids, n ≤ T.tasks.length)
    {w1 : World} {g cap : Nat} (hg : (w.alloc (.cells (newTask L T.tasks.length inn) 111)).grownBy w1 L.ts.ownBlock)
    (hv : w1.ownsRow 0 108 1 (.slice (some ⟨g, 0, none⟩) (T.tasks.length + 1) cap) (T.tasks.length + 1) (((List.range T.tasks.length).map fun i => .pointer (some ⟨L.tb i, 0, none⟩)) ++ [.pointer (some ⟨w.heap.size, 0, none⟩)]))
    (hat : L.ts.ownBlock = some g ∨ w.heap.size + 1 ≤ g) :
    ∃ κ', Rep κ' (L.more T.tasks.length w.heap.size (.slice (some ⟨g, 0, none⟩) (T.tasks.length + 1) cap)) { T with tasks := T.tasks ++ [.new inn] } (w1.setCell ⟨L.t, 0, none⟩ (.slice (some ⟨g, 0, none⟩) (T.tasks.length + 1) cap)) ∧
      Ext κ κ' w (w1.setCell ⟨L.t, 0, none⟩ (.slice (some ⟨g, 0, none⟩) (T.tasks.length + 1) cap)) := by
  obtain ⟨_, _, _, hB, hN⟩ := add_cells R inn hg
  have hs : w.heap.size + 1 ≤ w1.heap.size := by have := hg.size; simpa using this
  have hgl : g < w1.heap.size := (hv.lt g rfl).2
  have hbg : w.heap.size ≠ g := by
    rintro e
    rcases hat with hat | hat
    · have := R.lt _ _ (R.kts _ hat); omega
    · omega
  have hs1 : (w1.setCell ⟨L.t, 0, none⟩ (.slice (some ⟨g, 0, none⟩) (T.tasks.length + 1) cap)).heap.size = w1.heap.size := by simp [World.setCell]
  obtain ⟨n1, n2, n3, n4, n5⟩ := R.names (b := w.heap.size) (g := g) (tb := .task T.tasks.length) (tg := .tarr) (v := L.ts) (Nat.le_refl _) R.kts hat hbg
    (w' := w1.setCell ⟨L.t, 0, none⟩ (.slice (some ⟨g, 0, none⟩) (T.tasks.length + 1) cap)) (by omega) (by omega) (by omega)
  have hne : g ≠ L.t := by
    rintro rfl
    rcases hat with hat | hat
    · have := R.kts _ hat; rw [R.ktree] at this; cases this
    · have := R.lt _ _ R.ktree; omega
  have hsame : ∀ b t, κ b = some t → t ≠ .tree → t ≠ .tarr → (w1.setCell ⟨L.t, 0, none⟩ (.slice (some ⟨g, 0, none⟩) (T.tasks.length + 1) cap)).heap[b]? = w.heap[b]? := fun b t hb h1 h2 => by
    have hlt := R.lt b t hb
    rw [Below.heap_setCell _ _ _ _ (fun e => by subst e; rw [R.ktree] at hb; cases hb; exact h1 rfl)]
    rw [hg.block b (by simp; omega) (fun e => by have := R.kts _ e.symm; rw [hb] at this; cases this; exact h2 rfl)]
    exact Below.heap_alloc w _ b hlt
  refine ⟨_, R.addTask (κ' := (κ.set w.heap.size (.task T.tasks.length)).set g .tarr) (.new inn) w.heap.size (.slice (some ⟨g, 0, none⟩) (T.tasks.length + 1) cap) hown hkid n1 n2 rfl ?_ ?_ n3 ?_ ?_ hsame, ?_⟩
  · exact hB.set_ 0 _
  · have e : Lay.tcells { L with ts := .slice (some ⟨g, 0, none⟩) (T.tasks.length + 1) cap, tb := upd L.tb T.tasks.length w.heap.size, ov := upd L.ov T.tasks.length (.slice none 0 0) } T.tasks.length (.new inn) = newTask L T.tasks.length inn := by
      have h := upd_same L.ov T.tasks.length (.slice none 0 0)
      unfold Lay.tcells newTask
      simp only [h]
      rfl
    rw [e]
    exact hN.far (fun (e : w.heap.size = L.t) => by have := R.tree.lt; omega) _
  · exact ownsRow_setCell_other hv (by simp [Value.ownBlock, hne]) _
  · intro x hx
    have : x = g := by simpa [Value.ownBlock] using hx.symm
    subst this
    exact n4
  · refine Ext.name (κ' := κ) (Ext.setCell ?_ (by rw [R.ktree]; simp) _) n5
    exact ((Ext.refl κ w).alloc _).grown hg (fun b hb => by rw [R.kts b hb]; simp)

theorem add_root (R : Rep κ L T w) (hown : ∀ (i : Nat) (s : ScopeA), T.scopes[i]? = some s → s.owner ≤ T.tasks.length) (hkid : ∀ (i : Nat) (s : ScopeA), T.scopes[i]? = some s → ∀ n ∈ s.kids, n ≤ T.tasks.length) (hn : T.tasks.length ≤ 1000) :
    Calls Try.prog 76 #[.pointer (some ⟨L.t, 0, none⟩), .pointer none] w fun e w' => e = .returned (.int .i64 ((T.tasks.length : Int) + 1)) ∧
      ∃ κ' L', L'.t = L.t ∧ Rep κ' L' { T with tasks := T.tasks ++ [.new 0] } w' ∧ Ext κ κ' w w' := by
  obtain ⟨c0, c1⟩ := R.treecells
  have hlt := R.tree.lt
  have hts := R.ts
  obtain ⟨ad, cap, hv, hcap, hm⟩ := owns_len R.ts
  have FIN : Hid (∀ {w1 : World} {g cap : Nat}, (w.alloc (.cells (newTask L T.tasks.length 0) 111)).grownBy w1 L.ts.ownBlock → _ → _ → _) := fun {w1 g cap} => add_mem R 0 hown hkid (w1 := w1) (g := g) (cap := cap)
  have CEL : Hid (∀ {w1 : World}, (w.alloc (.cells (newTask L T.tasks.length 0) 111)).grownBy w1 L.ts.ownBlock → _) := fun {w1} => add_cells R 0 (w1 := w1)
  rw [hv] at c0 hts FIN CEL
  unfold newTask at FIN CEL
  rw [Lay.sp_zero] at FIN CEL
  have HT := Lib.hid hts
  generalize hn' : T.tasks.length = n at *
  clear R hts hv hown hkid hn'
  go_enter Try.func76, Try.ntmps76
  go_wp2_with (at_builtin; refine wpList_push rfl (.tmp 19) (.tmp 21) 104 rfl 108 1 8 _ Try.infoTaskP rfl (by omega) (by omega) Try.underlying104 (.slice ad n cap) n _ rfl (HT.out.alloc _) _ _ rfl (by simp) rfl (one_ptr _) (by omega) ?_; intro g cap' w1 hown' hgrow hat; obtain ⟨k0, k1, k2, _, _⟩ := CEL.out hgrow)
  go_ret
  obtain ⟨κ', h2, h3⟩ := FIN.out hgrow hown' (by simpa using hat)
  exact ⟨rfl, κ', L.more n w.heap.size (.slice (some ⟨g, 0, none⟩) (n + 1) cap'), rfl, h2, h3⟩

end
end Go.Proofs.Ytoonkidlbnndcaa
