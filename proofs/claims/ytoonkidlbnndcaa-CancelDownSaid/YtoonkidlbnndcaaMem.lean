/-
  The memory of a tree of tasks and scopes: which blocks are whose, and what a change of one block leaves.
  The memory of a tree of tasks and scopes: a slice that has changed, a task more, a scope more.
  append of one element, made in place, to a slice that the program owns.
-/
import Derived.WalkKit
import Derived.Deep.Draws
import Derived.Maps.AppendAt
import Derived.Test.YtoonkidlbnndcaaProg
import Derived.Handy
import Derived.Lib.Hide
namespace Go.Proofs.Ytoonkidlbnndcaa
set_option linter.unusedVariables false
set_option linter.unusedSimpArgs false
open Go.RowKit

/-- Block g is just the cells cs of the element type t, none frozen. -/
def Blk (w : World) (g : Nat) (t : TypeId) (cs : Array Value) : Prop := w.heap[g]? = some (.cells cs t (0, 0))

section
variable {w w' : World} {g : Nat} {t : TypeId} {cs : Array Value}
theorem Blk.lt (h : Blk w g t cs) : g < w.heap.size := (Array.getElem?_eq_some_iff.1 h).1
theorem Blk.cell (h : Blk w g t cs) (i : Nat) {v : Value} (hv : cs[i]? = some v) : w.cell? ⟨g, i, none⟩ = some v := (cell_of_row w g i cs t (0, 0) h).trans hv
theorem Blk.frozen (h : Blk w g t cs) (i : Nat) : w.frozen? ⟨g, i, none⟩ = false := by
  unfold Blk at h
  simp [World.frozen?, h]
theorem Blk.new (w : World) (t : TypeId) (cs : Array Value) : Blk (w.alloc (.cells cs t)) w.heap.size t cs := heap_alloc_new w _
theorem Blk.set_ (h : Blk w g t cs) (i : Nat) (u : Value) : Blk (w.setCell ⟨g, i, none⟩ u) g t (cs.setIfInBounds i u) := by
  unfold Blk at h ⊢
  simp [World.setCell, Array.getElem?_modify, h]
theorem Blk.of (h : Blk w g t cs) (e : w'.heap[g]? = w.heap[g]?) : Blk w' g t cs := e.trans h
end

/-- What a block is for. -/
inductive Tag where
  | tree | tarr | sarr
  | task (i : Nat) | scope (i : Nat) | opn (i : Nat) | kid (i : Nat)
  | grove | mt | ms | due
  deriving DecidableEq

abbrev Kap := Nat → Option Tag

/-- κ' says of old blocks what κ said; what κ does not name has not turned. -/
structure Ext (κ κ' : Kap) (w w' : World) : Prop where
  os : w'.os = w.os
  tape : w'.tape = w.tape
  output : w'.output = w.output
  size : w.heap.size ≤ w'.heap.size
  keep : ∀ b, b < w.heap.size → κ b = none → w'.heap[b]? = w.heap[b]?
  old : ∀ b, b < w.heap.size → κ' b = κ b

theorem Ext.refl (κ : Kap) (w : World) : Ext κ κ w w := ⟨rfl, rfl, rfl, Nat.le_refl _, fun _ _ _ => rfl, fun _ _ => rfl⟩
theorem Ext.trans {κ κ1 κ2 : Kap} {w w1 w2 : World} (h : Ext κ κ1 w w1) (k : Ext κ1 κ2 w1 w2) : Ext κ κ2 w w2 :=
  ⟨k.os.trans h.os, k.tape.trans h.tape, k.output.trans h.output, Nat.le_trans h.size k.size,
   fun b hb hn => (k.keep b (Nat.lt_of_lt_of_le hb h.size) ((h.old b hb).trans hn)).trans (h.keep b hb hn),
   fun b hb => (k.old b (Nat.lt_of_lt_of_le hb h.size)).trans (h.old b hb)⟩
theorem Ext.of_below {κ : Kap} {w w' : World} (h : Below w.heap.size w w') : Ext κ κ w w' := ⟨h.os, h.tape, h.output, h.size, fun b hb _ => h.block b hb, fun _ _ => rfl⟩
theorem Ext.drewN {κ κ' : Kap} {w w' : World} (h : Ext κ κ' w w') (n : Nat) : Ext κ κ' w (w'.drewN n) := ⟨h.os, h.tape, h.output, h.size, h.keep, h.old⟩
theorem Ext.alloc {κ κ' : Kap} {w w' : World} (h : Ext κ κ' w w') (o : Obj) : Ext κ κ' w (w'.alloc o) :=
  h.trans (Ext.of_below ((Below.refl _ _).alloc (Nat.le_refl _) o))
theorem Ext.setCell {κ κ' : Kap} {w w' : World} (h : Ext κ κ' w w') {p : Addr} (hp : κ' p.block ≠ none) (u : Value) : Ext κ κ' w (w'.setCell p u) :=
  h.trans ⟨rfl, rfl, rfl, by simp [World.setCell], fun b _ hn => Below.heap_setCell w' p u b (fun e => hp (e ▸ hn)), fun _ _ => rfl⟩
theorem Ext.setNew {κ κ' : Kap} {w w' : World} (h : Ext κ κ' w w') {p : Addr} (hp : w.heap.size ≤ p.block) (u : Value) : Ext κ κ' w (w'.setCell p u) :=
  ⟨h.os, h.tape, h.output, by simpa [World.setCell] using h.size, fun b hb hn => (Below.heap_setCell w' p u b (by omega)).trans (h.keep b hb hn), h.old⟩
theorem Ext.grown {κ κ' : Kap} {w w1 w2 : World} {row : Option Nat} (h : Ext κ κ' w w1) (hg : w1.grownBy w2 row) (hr : ∀ b, row = some b → κ' b ≠ none) : Ext κ κ' w w2 :=
  h.trans ⟨hg.os, hg.tape, hg.output, hg.size, fun b hb hn => hg.block b hb (fun e => hr b e.symm hn), fun _ _ => rfl⟩
theorem Ext.grownNew {κ κ' : Kap} {w w1 w2 : World} {row : Option Nat} (h : Ext κ κ' w w1) (hg : w1.grownBy w2 row) (hr : ∀ b, row = some b → w.heap.size ≤ b) : Ext κ κ' w w2 :=
  ⟨hg.os.trans h.os, hg.tape.trans h.tape, hg.output.trans h.output, Nat.le_trans h.size hg.size,
   fun b hb hn => (hg.block b (Nat.lt_of_lt_of_le hb h.size) (fun e => by have := hr b e.symm; omega)).trans (h.keep b hb hn), h.old⟩
/-- A new block is given a name. -/
theorem Ext.name {κ κ' κ'' : Kap} {w w' : World} (h : Ext κ κ' w w') (hk : ∀ b, b < w.heap.size → κ'' b = κ' b) : Ext κ κ'' w w' :=
  ⟨h.os, h.tape, h.output, h.size, h.keep, fun b hb => (hk b hb).trans (h.old b hb)⟩

def Kap.set (κ : Kap) (b : Nat) (g : Tag) : Kap := fun x => if x = b then some g else κ x
theorem Kap.set_same (κ : Kap) (b : Nat) (g : Tag) : κ.set b g b = some g := by simp [Kap.set]
theorem Kap.set_other (κ : Kap) {b x : Nat} (g : Tag) (h : x ≠ b) : κ.set b g x = κ x := by simp [Kap.set, h]

section
variable {a w w' : World} {row : Option Nat}
theorem gb_drewN (h : a.grownBy w row) (n : Nat) : a.grownBy (w.drewN n) row := ⟨h.os, h.tape, h.output, h.size, h.block⟩
theorem gb_drew (h : a.grownBy w row) : a.grownBy w.drew row := ⟨h.os, h.tape, h.output, h.size, h.block⟩
theorem gb_alloc (h : a.grownBy w row) (o : Obj) : a.grownBy (w.alloc o) row :=
  ⟨h.os, h.tape, h.output, Nat.le_trans h.size (by simp), fun i hi hne => (Below.heap_alloc w o i (Nat.lt_of_lt_of_le hi h.size)).trans (h.block i hi hne)⟩
theorem gb_set {g : Nat} (h : a.grownBy w (some g)) {p : Addr} (hp : p.block = g ∨ a.heap.size ≤ p.block) (u : Value) : a.grownBy (w.setCell p u) (some g) :=
  ⟨h.os, h.tape, h.output, by simpa [World.setCell] using h.size, fun i hi hne => (Below.heap_setCell w p u i (by
    rintro rfl
    rcases hp with hp | hp
    · exact hne (by rw [hp])
    · omega)).trans (h.block i hi hne)⟩
theorem gb_at {g : Nat} (h : a.grownBy w (some g)) (o : Nat) (u : Value) : a.grownBy (w.setCell ⟨g, o, none⟩ u) (some g) := gb_set h (.inl rfl) u
theorem gb_below (h : a.grownBy w row) (hb : Below w.heap.size w w') : a.grownBy w' row :=
  ⟨hb.os.trans h.os, hb.tape.trans h.tape, hb.output.trans h.output, Nat.le_trans h.size hb.size, fun i hi hn => (hb.block i (Nat.lt_of_lt_of_le hi h.size)).trans (h.block i hi hn)⟩
theorem gb_refl (w : World) (row : Option Nat) : w.grownBy w row := ⟨rfl, rfl, rfl, Nat.le_refl _, fun _ _ _ => rfl⟩
theorem gb_grown {row' : Option Nat} (h : a.grownBy w row) (k : w.grownBy w' row') (hr : ∀ b, row' = some b → row = some b ∨ a.heap.size ≤ b) : a.grownBy w' row :=
  ⟨k.os.trans h.os, k.tape.trans h.tape, k.output.trans h.output, Nat.le_trans h.size k.size, fun i hi hn =>
    (k.block i (Nat.lt_of_lt_of_le hi h.size) (fun e => by
      rcases hr i e.symm with h' | h'
      · exact hn h'.symm
      · omega)).trans (h.block i hi hn)⟩
theorem Blk.alloc {g : Nat} {t : TypeId} {cs : Array Value} (h : Blk w g t cs) (o : Obj) : Blk (w.alloc o) g t cs := (Below.heap_alloc w o g h.lt).trans h
theorem Blk.far {g : Nat} {t : TypeId} {cs : Array Value} (h : Blk w g t cs) {p : Addr} (hp : g ≠ p.block) (u : Value) : Blk (w.setCell p u) g t cs := (Below.heap_setCell w p u g hp).trans h
theorem Blk.below {g : Nat} {t : TypeId} {cs : Array Value} (h : Blk w g t cs) (hb : Below w.heap.size w w') : Blk w' g t cs := (hb.block g h.lt).trans h
theorem Blk.grown {g : Nat} {t : TypeId} {cs : Array Value} (h : Blk w g t cs) (hb : w.grownBy w' row) (hg : row ≠ some g) : Blk w' g t cs := (hb.block g h.lt (fun e => hg e.symm)).trans h
end

/- ## What the tree is -/

structure Flt where
  kind : Int
  text : ByteArray

structure TaskA where
  inn : Nat
  opn : List Nat
  leaving : Bool
  ended : Bool
  flt : Flt

structure ScopeA where
  owner : Nat
  sup : Bool
  over : Bool
  kids : List Nat
  live : Int
  flt : Flt

structure TreeA where
  tasks : List TaskA
  scopes : List ScopeA

/-- Where it lies. -/
structure Lay where
  t : Nat
  ts : Value
  ss : Value
  tb : Nat → Nat
  sb : Nat → Nat
  ov : Nat → Value
  kv : Nat → Value

def Lay.tp (L : Lay) (n : Nat) : Value := if n = 0 then .pointer none else .pointer (some ⟨L.tb (n - 1), 0, none⟩)
def Lay.sp (L : Lay) (n : Nat) : Value := if n = 0 then .pointer none else .pointer (some ⟨L.sb (n - 1), 0, none⟩)
def Lay.tcells (L : Lay) (i : Nat) (x : TaskA) : Array Value :=
  #[.int .i64 ((i : Int) + 1), L.sp x.inn, L.ov i, .bool x.leaving, .bool x.ended, .int .i64 x.flt.kind, .string x.flt.text]
def Lay.scells (L : Lay) (i : Nat) (s : ScopeA) : Array Value :=
  #[.int .i64 ((i : Int) + 1), L.tp s.owner, .bool s.sup, .bool s.over, L.kv i, .int .i64 s.live, .int .i64 s.flt.kind, .string s.flt.text]

theorem Lay.tp_succ (L : Lay) (i : Nat) : L.tp (i + 1) = .pointer (some ⟨L.tb i, 0, none⟩) := by simp [Lay.tp]
theorem Lay.sp_succ (L : Lay) (i : Nat) : L.sp (i + 1) = .pointer (some ⟨L.sb i, 0, none⟩) := by simp [Lay.sp]
theorem Lay.tp_zero (L : Lay) : L.tp 0 = .pointer none := rfl
theorem Lay.sp_zero (L : Lay) : L.sp 0 = .pointer none := rfl

theorem scells_flt (L : Lay) (i : Nat) (s : ScopeA) (k : Int) (t : ByteArray) : ((L.scells i s).setIfInBounds 6 (.int .i64 k)).setIfInBounds 7 (.string t) = L.scells i { s with flt := ⟨k, t⟩ } := rfl
theorem scells_over (L : Lay) (i : Nat) (s : ScopeA) (b : Bool) : (L.scells i s).setIfInBounds 3 (.bool b) = L.scells i { s with over := b } := rfl
theorem scells_live (L : Lay) (i : Nat) (s : ScopeA) (n : Int) : (L.scells i s).setIfInBounds 5 (.int .i64 n) = L.scells i { s with live := n } := rfl
theorem tcells_leaving (L : Lay) (i : Nat) (x : TaskA) (b : Bool) : (L.tcells i x).setIfInBounds 3 (.bool b) = L.tcells i { x with leaving := b } := rfl
theorem tcells_ended (L : Lay) (i : Nat) (x : TaskA) (b : Bool) : (L.tcells i x).setIfInBounds 4 (.bool b) = L.tcells i { x with ended := b } := rfl
theorem tcells_flt (L : Lay) (i : Nat) (x : TaskA) (k : Int) (t : ByteArray) : ((L.tcells i x).setIfInBounds 5 (.int .i64 k)).setIfInBounds 6 (.string t) = L.tcells i { x with flt := ⟨k, t⟩ } := rfl

/-- The tree T lies in the world w as L says; κ names its blocks. -/
structure Rep (κ : Kap) (L : Lay) (T : TreeA) (w : World) : Prop where
  lt : ∀ b g, κ b = some g → b < w.heap.size
  tree : Blk w L.t 107 #[L.ts, L.ss]
  ktree : κ L.t = some .tree
  ts : w.ownsRow 0 108 1 L.ts T.tasks.length ((List.range T.tasks.length).map fun i => .pointer (some ⟨L.tb i, 0, none⟩))
  kts : ∀ b, L.ts.ownBlock = some b → κ b = some .tarr
  ss : w.ownsRow 0 109 1 L.ss T.scopes.length ((List.range T.scopes.length).map fun i => .pointer (some ⟨L.sb i, 0, none⟩))
  kss : ∀ b, L.ss.ownBlock = some b → κ b = some .sarr
  task : ∀ i x, T.tasks[i]? = some x → Blk w (L.tb i) 111 (L.tcells i x)
  ktask : ∀ i x, T.tasks[i]? = some x → κ (L.tb i) = some (.task i)
  scope : ∀ i s, T.scopes[i]? = some s → Blk w (L.sb i) 113 (L.scells i s)
  kscope : ∀ i s, T.scopes[i]? = some s → κ (L.sb i) = some (.scope i)
  opn : ∀ i x, T.tasks[i]? = some x → w.ownsRow 0 109 1 (L.ov i) x.opn.length (x.opn.map L.sp)
  kopn : ∀ i x, T.tasks[i]? = some x → ∀ b, (L.ov i).ownBlock = some b → κ b = some (.opn i)
  kid : ∀ i s, T.scopes[i]? = some s → w.ownsRow 0 108 1 (L.kv i) s.kids.length (s.kids.map L.tp)
  kkid : ∀ i s, T.scopes[i]? = some s → ∀ b, (L.kv i).ownBlock = some b → κ b = some (.kid i)

/-- An owned row whose block has not turned. -/
theorem owns_of {w w' : World} {e size n : Nat} {v : Value} {xs : List Value} (h : w.ownsRow 0 e size v n xs) (k : ∀ b, v.ownBlock = some b → w'.heap[b]? = w.heap[b]?) : w'.ownsRow 0 e size v n xs := by
  refine ⟨h.1, ?_⟩
  rcases h.2 with hn | ⟨g, cap, cur, rfl, hb, hgg, rest⟩
  · exact .inl hn
  · exact .inr ⟨g, cap, cur, rfl, hb, (k g rfl).trans hgg, rest⟩

section
variable {κ : Kap} {L : Lay} {T : TreeA} {w w' : World}

/-- No block of the tree's has turned. -/
theorem Rep.same (R : Rep κ L T w) (hs : w.heap.size ≤ w'.heap.size) (h : ∀ b g, κ b = some g → w'.heap[b]? = w.heap[b]?) : Rep κ L T w' where
  lt b g hb := Nat.lt_of_lt_of_le (R.lt b g hb) hs
  tree := R.tree.of (h _ _ R.ktree)
  ktree := R.ktree
  ts := owns_of R.ts fun b hb => h _ _ (R.kts b hb)
  kts := R.kts
  ss := owns_of R.ss fun b hb => h _ _ (R.kss b hb)
  kss := R.kss
  task i x hx := (R.task i x hx).of (h _ _ (R.ktask i x hx))
  ktask := R.ktask
  scope i x hx := (R.scope i x hx).of (h _ _ (R.kscope i x hx))
  kscope := R.kscope
  opn i x hx := owns_of (R.opn i x hx) fun b hb => h _ _ (R.kopn i x hx b hb)
  kopn := R.kopn
  kid i x hx := owns_of (R.kid i x hx) fun b hb => h _ _ (R.kkid i x hx b hb)
  kkid := R.kkid

theorem Rep.drewN (R : Rep κ L T w) (n : Nat) : Rep κ L T (w.drewN n) := R.same (Nat.le_refl _) fun _ _ _ => rfl
theorem Rep.drew (R : Rep κ L T w) : Rep κ L T w.drew := R.same (Nat.le_refl _) fun _ _ _ => rfl
theorem Rep.below (R : Rep κ L T w) (h : Below w.heap.size w w') : Rep κ L T w' := R.same h.size fun b g hb => h.block b (R.lt b g hb)
theorem Rep.alloc (R : Rep κ L T w) (o : Obj) : Rep κ L T (w.alloc o) := R.below ((Below.refl _ _).alloc (Nat.le_refl _) o)
theorem Rep.far (R : Rep κ L T w) {p : Addr} (hp : κ p.block = none) (u : Value) : Rep κ L T (w.setCell p u) :=
  R.same (by simp [World.setCell]) fun b g hb => Below.heap_setCell w p u b (fun e => by rw [e, hp] at hb; cases hb)
theorem Rep.grown {row : Option Nat} (R : Rep κ L T w) (hg : w.grownBy w' row) (hr : ∀ b, row = some b → κ b = none) : Rep κ L T w' :=
  R.same hg.size fun b g hb => hg.block b (R.lt b g hb) (fun e => by rw [hr b e.symm] at hb; cases hb)
theorem Rep.new_none (R : Rep κ L T w) {b : Nat} (hb : w.heap.size ≤ b) : κ b = none := by
  rcases h : κ b with _ | g
  · rfl
  · have := R.lt b g h; omega
theorem Rep.name (R : Rep κ L T w) {b : Nat} (hn : κ b = none) (hb : b < w.heap.size) (g : Tag) : Rep (κ.set b g) L T w := by
  have hk : ∀ {x t}, κ x = some t → κ.set b g x = some t := fun {x t} h => by
    rw [Kap.set_other]; exact h
    rintro rfl; rw [hn] at h; cases h
  exact { R with
    lt := fun x t h => by
      by_cases e : x = b
      · subst e; exact hb
      · rw [Kap.set_other κ g e] at h; exact R.lt x t h
    ktree := hk R.ktree
    kts := fun b hb => hk (R.kts b hb)
    kss := fun b hb => hk (R.kss b hb)
    ktask := fun i x h => hk (R.ktask i x h)
    kscope := fun i x h => hk (R.kscope i x h)
    kopn := fun i x h b hb => hk (R.kopn i x h b hb)
    kkid := fun i x h b hb => hk (R.kkid i x h b hb) }

/-- The cells of task i are new; its open links and where they lie are as they were. -/
theorem Rep.setTask (R : Rep κ L T w) {i : Nat} {x x' : TaskA} (hx : T.tasks[i]? = some x) (ho : x'.opn = x.opn) (hg : w.grownBy w' (some (L.tb i)))
    (hb : Blk w' (L.tb i) 111 (L.tcells i x')) : Rep κ L { T with tasks := T.tasks.set i x' } w' := by
  have ki := R.ktask i x hx
  have kp : ∀ {b g}, κ b = some g → g ≠ .task i → w'.heap[b]? = w.heap[b]? := fun {b g} hk hne => hg.block b (R.lt b g hk) (fun e => by cases e; rw [ki] at hk; cases hk; exact hne rfl)
  have hil : i < T.tasks.length := (List.getElem?_eq_some_iff.1 hx).1
  have look : ∀ j y, (T.tasks.set i x')[j]? = some y → (j = i ∧ y = x') ∨ (j ≠ i ∧ T.tasks[j]? = some y) := fun j y hj => by
    rw [List.getElem?_set] at hj
    by_cases e : i = j
    · subst e; simp [hil] at hj; exact .inl ⟨rfl, hj.symm⟩
    · simp [e] at hj; exact .inr ⟨fun e' => e e'.symm, hj⟩
  exact {
    lt := fun b g hb => Nat.lt_of_lt_of_le (R.lt b g hb) hg.size
    tree := R.tree.of (kp R.ktree (by simp))
    ktree := R.ktree
    ts := by simpa using owns_of R.ts fun b hb => kp (R.kts b hb) (by simp)
    kts := R.kts
    ss := owns_of R.ss fun b hb => kp (R.kss b hb) (by simp)
    kss := R.kss
    task := fun j y hj => by
      rcases look j y hj with ⟨rfl, rfl⟩ | ⟨hne, hj'⟩
      · exact hb
      · exact (R.task j y hj').of (kp (R.ktask j y hj') (by simp [hne]))
    ktask := fun j y hj => by
      rcases look j y hj with ⟨rfl, rfl⟩ | ⟨hne, hj'⟩
      · exact ki
      · exact R.ktask j y hj'
    scope := fun j y hj => (R.scope j y hj).of (kp (R.kscope j y hj) (by simp))
    kscope := R.kscope
    opn := fun j y hj => by
      rcases look j y hj with ⟨rfl, rfl⟩ | ⟨hne, hj'⟩
      · rw [ho]; exact owns_of (R.opn j x hx) fun b hb => kp (R.kopn j x hx b hb) (by simp)
      · exact owns_of (R.opn j y hj') fun b hb => kp (R.kopn j y hj' b hb) (by simp)
    kopn := fun j y hj => by
      rcases look j y hj with ⟨rfl, rfl⟩ | ⟨hne, hj'⟩
      · exact R.kopn j x hx
      · exact R.kopn j y hj'
    kid := fun j y hj => owns_of (R.kid j y hj) fun b hb => kp (R.kkid j y hj b hb) (by simp)
    kkid := R.kkid }

/-- The cells of scope i are new; its tasks and where they lie are as they were. -/
theorem Rep.setScope (R : Rep κ L T w) {i : Nat} {x x' : ScopeA} (hx : T.scopes[i]? = some x) (ho : x'.kids = x.kids) (hg : w.grownBy w' (some (L.sb i)))
    (hb : Blk w' (L.sb i) 113 (L.scells i x')) : Rep κ L { T with scopes := T.scopes.set i x' } w' := by
  have ki := R.kscope i x hx
  have kp : ∀ {b g}, κ b = some g → g ≠ .scope i → w'.heap[b]? = w.heap[b]? := fun {b g} hk hne => hg.block b (R.lt b g hk) (fun e => by cases e; rw [ki] at hk; cases hk; exact hne rfl)
  have hil : i < T.scopes.length := (List.getElem?_eq_some_iff.1 hx).1
  have look : ∀ j y, (T.scopes.set i x')[j]? = some y → (j = i ∧ y = x') ∨ (j ≠ i ∧ T.scopes[j]? = some y) := fun j y hj => by
    rw [List.getElem?_set] at hj
    by_cases e : i = j
    · subst e; simp [hil] at hj; exact .inl ⟨rfl, hj.symm⟩
    · simp [e] at hj; exact .inr ⟨fun e' => e e'.symm, hj⟩
  exact {
    lt := fun b g hb => Nat.lt_of_lt_of_le (R.lt b g hb) hg.size
    tree := R.tree.of (kp R.ktree (by simp))
    ktree := R.ktree
    ts := owns_of R.ts fun b hb => kp (R.kts b hb) (by simp)
    kts := R.kts
    ss := by simpa using owns_of R.ss fun b hb => kp (R.kss b hb) (by simp)
    kss := R.kss
    task := fun j y hj => (R.task j y hj).of (kp (R.ktask j y hj) (by simp))
    ktask := R.ktask
    scope := fun j y hj => by
      rcases look j y hj with ⟨rfl, rfl⟩ | ⟨hne, hj'⟩
      · exact hb
      · exact (R.scope j y hj').of (kp (R.kscope j y hj') (by simp [hne]))
    kscope := fun j y hj => by
      rcases look j y hj with ⟨rfl, rfl⟩ | ⟨hne, hj'⟩
      · exact ki
      · exact R.kscope j y hj'
    opn := fun j y hj => owns_of (R.opn j y hj) fun b hb => kp (R.kopn j y hj b hb) (by simp)
    kopn := R.kopn
    kid := fun j y hj => by
      rcases look j y hj with ⟨rfl, rfl⟩ | ⟨hne, hj'⟩
      · rw [ho]; exact owns_of (R.kid j x hx) fun b hb => kp (R.kkid j x hx b hb) (by simp)
      · exact owns_of (R.kid j y hj') fun b hb => kp (R.kkid j y hj' b hb) (by simp)
    kkid := fun j y hj => by
      rcases look j y hj with ⟨rfl, rfl⟩ | ⟨hne, hj'⟩
      · exact R.kkid j x hx
      · exact R.kkid j y hj' }

end
end Go.Proofs.Ytoonkidlbnndcaa

namespace Go.Proofs.Ytoonkidlbnndcaa
set_option linter.unusedVariables false
set_option linter.unusedSimpArgs false
open Go.RowKit

def upd {α : Type} (f : Nat → α) (i : Nat) (v : α) : Nat → α := fun j => if j = i then v else f j
theorem upd_same {α : Type} (f : Nat → α) (i : Nat) (v : α) : upd f i v i = v := by simp [upd]
theorem upd_other {α : Type} (f : Nat → α) {i j : Nat} (v : α) (h : j ≠ i) : upd f i v j = f j := by simp [upd, h]
theorem upd_self {α : Type} (f : Nat → α) (i : Nat) : upd f i (f i) = f := by funext j; by_cases h : j = i <;> simp [upd, h]

theorem set_look {α : Type} {l : List α} {i : Nat} {x' : α} {x : α} (hx : l[i]? = some x) (j : Nat) (y : α) (hj : (l.set i x')[j]? = some y) : (j = i ∧ y = x') ∨ (j ≠ i ∧ l[j]? = some y) := by
  have hil : i < l.length := (List.getElem?_eq_some_iff.1 hx).1
  rw [List.getElem?_set] at hj
  by_cases e : i = j
  · subst e; simp [hil] at hj; exact .inl ⟨rfl, hj.symm⟩
  · simp [e] at hj; exact .inr ⟨fun e' => e e'.symm, hj⟩

theorem snoc_look {α : Type} {l : List α} {x' : α} (j : Nat) (y : α) (hj : (l ++ [x'])[j]? = some y) : (j = l.length ∧ y = x') ∨ (j < l.length ∧ l[j]? = some y) := by
  rcases Nat.lt_or_ge j l.length with h | h
  · rw [List.getElem?_append_left h] at hj; exact .inr ⟨h, hj⟩
  · rw [List.getElem?_append_right h] at hj
    rcases Nat.eq_or_lt_of_le h with e | e
    · subst e; simp at hj; exact .inl ⟨rfl, hj.symm⟩
    · rw [List.getElem?_eq_none (by simp; omega)] at hj; cases hj

section
variable {κ κ' : Kap} {L : Lay} {T : TreeA} {w w' : World}

/-- The open links of task i are new, and where they lie. -/
theorem Rep.setOpn (R : Rep κ L T w) {i : Nat} {x x' : TaskA} (hx : T.tasks[i]? = some x) (v' : Value)
    (hκ : ∀ b g, κ b = some g → κ' b = some g) (hlt : ∀ b g, κ' b = some g → b < w'.heap.size)
    (hb : Blk w' (L.tb i) 111 (Lay.tcells { L with ov := upd L.ov i v' } i x'))
    (hv : w'.ownsRow 0 109 1 v' x'.opn.length (x'.opn.map L.sp)) (hk : ∀ b, v'.ownBlock = some b → κ' b = some (.opn i))
    (h : ∀ b g, κ b = some g → g ≠ .task i → g ≠ .opn i → w'.heap[b]? = w.heap[b]?) : Rep κ' { L with ov := upd L.ov i v' } { T with tasks := T.tasks.set i x' } w' := by
  have look := @set_look _ _ i x' x hx
  exact {
    lt := hlt
    tree := R.tree.of (h _ _ R.ktree (by simp) (by simp))
    ktree := hκ _ _ R.ktree
    ts := by simpa using owns_of R.ts fun b hb => h _ _ (R.kts b hb) (by simp) (by simp)
    kts := fun b hb => hκ _ _ (R.kts b hb)
    ss := owns_of R.ss fun b hb => h _ _ (R.kss b hb) (by simp) (by simp)
    kss := fun b hb => hκ _ _ (R.kss b hb)
    task := fun j y hj => by
      rcases look j y hj with ⟨rfl, rfl⟩ | ⟨hne, hj'⟩
      · exact hb
      · have e : Lay.tcells { L with ov := upd L.ov i v' } j y = L.tcells j y := by simp [Lay.tcells, upd, hne, Lay.sp]
        rw [e]
        exact (R.task j y hj').of (h _ _ (R.ktask j y hj') (by simp [hne]) (by simp))
    ktask := fun j y hj => by
      rcases look j y hj with ⟨rfl, rfl⟩ | ⟨hne, hj'⟩
      · exact hκ _ _ (R.ktask j x hx)
      · exact hκ _ _ (R.ktask j y hj')
    scope := fun j y hj => (R.scope j y hj).of (h _ _ (R.kscope j y hj) (by simp) (by simp))
    kscope := fun j y hj => hκ _ _ (R.kscope j y hj)
    opn := fun j y hj => by
      rcases look j y hj with ⟨rfl, rfl⟩ | ⟨hne, hj'⟩
      · show w'.ownsRow 0 _ 1 (upd L.ov j v' j) _ _
        rw [upd_same]; exact hv
      · show w'.ownsRow 0 _ 1 (upd L.ov i v' j) _ _
        rw [upd_other _ _ hne]
        exact owns_of (R.opn j y hj') fun b hb => h _ _ (R.kopn j y hj' b hb) (by simp) (by simp [hne])
    kopn := fun j y hj => by
      rcases look j y hj with ⟨rfl, rfl⟩ | ⟨hne, hj'⟩
      · show ∀ b, (upd L.ov j v' j).ownBlock = some b → _
        rw [upd_same]; exact hk
      · show ∀ b, (upd L.ov i v' j).ownBlock = some b → _
        rw [upd_other _ _ hne]
        exact fun b hb => hκ _ _ (R.kopn j y hj' b hb)
    kid := fun j y hj => owns_of (R.kid j y hj) fun b hb => h _ _ (R.kkid j y hj b hb) (by simp) (by simp)
    kkid := fun j y hj b hb => hκ _ _ (R.kkid j y hj b hb) }

/-- The tasks of scope i are new, and where they lie. -/
theorem Rep.setKid (R : Rep κ L T w) {i : Nat} {x x' : ScopeA} (hx : T.scopes[i]? = some x) (v' : Value)
    (hκ : ∀ b g, κ b = some g → κ' b = some g) (hlt : ∀ b g, κ' b = some g → b < w'.heap.size)
    (hb : Blk w' (L.sb i) 113 (Lay.scells { L with kv := upd L.kv i v' } i x'))
    (hv : w'.ownsRow 0 108 1 v' x'.kids.length (x'.kids.map L.tp)) (hk : ∀ b, v'.ownBlock = some b → κ' b = some (.kid i))
    (h : ∀ b g, κ b = some g → g ≠ .scope i → g ≠ .kid i → w'.heap[b]? = w.heap[b]?) : Rep κ' { L with kv := upd L.kv i v' } { T with scopes := T.scopes.set i x' } w' := by
  have look := @set_look _ _ i x' x hx
  exact {
    lt := hlt
    tree := R.tree.of (h _ _ R.ktree (by simp) (by simp))
    ktree := hκ _ _ R.ktree
    ts := owns_of R.ts fun b hb => h _ _ (R.kts b hb) (by simp) (by simp)
    kts := fun b hb => hκ _ _ (R.kts b hb)
    ss := by simpa using owns_of R.ss fun b hb => h _ _ (R.kss b hb) (by simp) (by simp)
    kss := fun b hb => hκ _ _ (R.kss b hb)
    task := fun j y hj => (R.task j y hj).of (h _ _ (R.ktask j y hj) (by simp) (by simp))
    ktask := fun j y hj => hκ _ _ (R.ktask j y hj)
    scope := fun j y hj => by
      rcases look j y hj with ⟨rfl, rfl⟩ | ⟨hne, hj'⟩
      · exact hb
      · have e : Lay.scells { L with kv := upd L.kv i v' } j y = L.scells j y := by simp [Lay.scells, upd, hne, Lay.tp]
        rw [e]
        exact (R.scope j y hj').of (h _ _ (R.kscope j y hj') (by simp [hne]) (by simp))
    kscope := fun j y hj => by
      rcases look j y hj with ⟨rfl, rfl⟩ | ⟨hne, hj'⟩
      · exact hκ _ _ (R.kscope j x hx)
      · exact hκ _ _ (R.kscope j y hj')
    opn := fun j y hj => owns_of (R.opn j y hj) fun b hb => h _ _ (R.kopn j y hj b hb) (by simp) (by simp)
    kopn := fun j y hj b hb => hκ _ _ (R.kopn j y hj b hb)
    kid := fun j y hj => by
      rcases look j y hj with ⟨rfl, rfl⟩ | ⟨hne, hj'⟩
      · show w'.ownsRow 0 _ 1 (upd L.kv j v' j) _ _
        rw [upd_same]; exact hv
      · show w'.ownsRow 0 _ 1 (upd L.kv i v' j) _ _
        rw [upd_other _ _ hne]
        exact owns_of (R.kid j y hj') fun b hb => h _ _ (R.kkid j y hj' b hb) (by simp) (by simp [hne])
    kkid := fun j y hj => by
      rcases look j y hj with ⟨rfl, rfl⟩ | ⟨hne, hj'⟩
      · show ∀ b, (upd L.kv j v' j).ownBlock = some b → _
        rw [upd_same]; exact hk
      · show ∀ b, (upd L.kv i v' j).ownBlock = some b → _
        rw [upd_other _ _ hne]
        exact fun b hb => hκ _ _ (R.kkid j y hj' b hb) }

theorem map_upd_range {L : Lay} (f : Nat → Nat) (n b : Nat) : ((List.range n).map fun i => Value.pointer (some ⟨upd f n b i, 0, none⟩)) = (List.range n).map fun i => Value.pointer (some ⟨f i, 0, none⟩) := by
  apply List.map_congr_left
  intro i hi
  have : i ≠ n := by simp at hi; omega
  rw [upd_other _ _ this]

/-- A task more: it lies in block b, and the slice of all tasks is v'. What points to tasks points to those that were there. -/
theorem Rep.addTask (R : Rep κ L T w) (x : TaskA) (b : Nat) (v' : Value)
    (hown : ∀ (i : Nat) (s : ScopeA), T.scopes[i]? = some s → s.owner ≤ T.tasks.length) (hkid : ∀ (i : Nat) (s : ScopeA), T.scopes[i]? = some s → ∀ n ∈ s.kids, n ≤ T.tasks.length)
    (hκ : ∀ b g, κ b = some g → κ' b = some g) (hlt : ∀ b g, κ' b = some g → b < w'.heap.size)
    (ho : x.opn = [])
    (htree : Blk w' L.t 107 #[v', L.ss])
    (hb : Blk w' b 111 (Lay.tcells { L with ts := v', tb := upd L.tb T.tasks.length b, ov := upd L.ov T.tasks.length (.slice none 0 0) } T.tasks.length x))
    (hkb : κ' b = some (.task T.tasks.length))
    (hv : w'.ownsRow 0 108 1 v' (T.tasks.length + 1) (((List.range T.tasks.length).map fun i => .pointer (some ⟨L.tb i, 0, none⟩)) ++ [.pointer (some ⟨b, 0, none⟩)])) (hk : ∀ b, v'.ownBlock = some b → κ' b = some .tarr)
    (h : ∀ b g, κ b = some g → g ≠ .tree → g ≠ .tarr → w'.heap[b]? = w.heap[b]?) :
    Rep κ' { L with ts := v', tb := upd L.tb T.tasks.length b, ov := upd L.ov T.tasks.length (.slice none 0 0) } { T with tasks := T.tasks ++ [x] } w' := by
  have hsp : ∀ n, Lay.sp { L with ts := v', tb := upd L.tb T.tasks.length b, ov := upd L.ov T.tasks.length (.slice none 0 0) } n = L.sp n := fun n => rfl
  have htp : ∀ n, n ≤ T.tasks.length → Lay.tp { L with ts := v', tb := upd L.tb T.tasks.length b, ov := upd L.ov T.tasks.length (.slice none 0 0) } n = L.tp n := fun n hn => by
    unfold Lay.tp
    by_cases e : n = 0
    · simp [e]
    · simp only [e, if_false]
      rw [upd_other _ _ (by omega)]
  exact {
    lt := hlt
    tree := htree
    ktree := hκ _ _ R.ktree
    ts := by
      simp only [List.length_append, List.length_singleton, List.range_succ, List.map_append, List.map_cons, List.map_nil]
      rw [map_upd_range (L := L), upd_same]
      exact hv
    kts := hk
    ss := owns_of R.ss fun b hb => h _ _ (R.kss b hb) (by simp) (by simp)
    kss := fun b hb => hκ _ _ (R.kss b hb)
    task := fun j y hj => by
      rcases snoc_look j y hj with ⟨rfl, rfl⟩ | ⟨hlt, hj'⟩
      · show Blk w' (upd L.tb _ b _) _ _
        rw [upd_same]; exact hb
      · show Blk w' (upd L.tb _ b j) _ _
        rw [upd_other _ _ (by omega)]
        have e : Lay.tcells { L with ts := v', tb := upd L.tb T.tasks.length b, ov := upd L.ov T.tasks.length (.slice none 0 0) } j y = L.tcells j y := by
          simp [Lay.tcells, upd, Nat.ne_of_lt hlt, Lay.sp]
        rw [e]
        exact (R.task j y hj').of (h _ _ (R.ktask j y hj') (by simp) (by simp))
    ktask := fun j y hj => by
      rcases snoc_look j y hj with ⟨rfl, rfl⟩ | ⟨hlt, hj'⟩
      · show κ' (upd L.tb _ b _) = _
        rw [upd_same]; exact hkb
      · show κ' (upd L.tb _ b j) = _
        rw [upd_other _ _ (by omega)]
        exact hκ _ _ (R.ktask j y hj')
    scope := fun j y hj => by
      have e : Lay.scells { L with ts := v', tb := upd L.tb T.tasks.length b, ov := upd L.ov T.tasks.length (.slice none 0 0) } j y = L.scells j y := by
        simp only [Lay.scells, htp _ (hown j y hj)]
      rw [e]
      exact (R.scope j y hj).of (h _ _ (R.kscope j y hj) (by simp) (by simp))
    kscope := fun j y hj => hκ _ _ (R.kscope j y hj)
    opn := fun j y hj => by
      rcases snoc_look j y hj with ⟨rfl, rfl⟩ | ⟨hlt, hj'⟩
      · show w'.ownsRow 0 _ 1 (upd L.ov _ _ _) _ _
        rw [upd_same, ho]; exact World.ownsRow_nil _ _ _ _
      · show w'.ownsRow 0 _ 1 (upd L.ov _ _ j) _ _
        rw [upd_other _ _ (by omega)]
        exact owns_of (R.opn j y hj') fun b hb => h _ _ (R.kopn j y hj' b hb) (by simp) (by simp)
    kopn := fun j y hj => by
      rcases snoc_look j y hj with ⟨rfl, rfl⟩ | ⟨hlt, hj'⟩
      · show ∀ b, (upd L.ov _ _ _).ownBlock = some b → _
        rw [upd_same]; intro b hb; cases hb
      · show ∀ b, (upd L.ov _ _ j).ownBlock = some b → _
        rw [upd_other _ _ (by omega)]
        exact fun b hb => hκ _ _ (R.kopn j y hj' b hb)
    kid := fun j y hj => by
      have e : y.kids.map (Lay.tp { L with ts := v', tb := upd L.tb T.tasks.length b, ov := upd L.ov T.tasks.length (.slice none 0 0) }) = y.kids.map L.tp :=
        List.map_congr_left fun n hn => htp n (hkid j y hj n hn)
      rw [e]
      exact owns_of (R.kid j y hj) fun b hb => h _ _ (R.kkid j y hj b hb) (by simp) (by simp)
    kkid := fun j y hj b hb => hκ _ _ (R.kkid j y hj b hb) }

/-- A scope more: it lies in block b, and the slice of all scopes is v'. -/
theorem Rep.addScope (R : Rep κ L T w) (x : ScopeA) (b : Nat) (v' : Value)
    (hin : ∀ (i : Nat) (s : TaskA), T.tasks[i]? = some s → s.inn ≤ T.scopes.length) (hopn : ∀ (i : Nat) (s : TaskA), T.tasks[i]? = some s → ∀ n ∈ s.opn, n ≤ T.scopes.length)
    (hκ : ∀ b g, κ b = some g → κ' b = some g) (hlt : ∀ b g, κ' b = some g → b < w'.heap.size)
    (ho : x.kids = [])
    (htree : Blk w' L.t 107 #[L.ts, v'])
    (hb : Blk w' b 113 (Lay.scells { L with ss := v', sb := upd L.sb T.scopes.length b, kv := upd L.kv T.scopes.length (.slice none 0 0) } T.scopes.length x))
    (hkb : κ' b = some (.scope T.scopes.length))
    (hv : w'.ownsRow 0 109 1 v' (T.scopes.length + 1) (((List.range T.scopes.length).map fun i => .pointer (some ⟨L.sb i, 0, none⟩)) ++ [.pointer (some ⟨b, 0, none⟩)])) (hk : ∀ b, v'.ownBlock = some b → κ' b = some .sarr)
    (h : ∀ b g, κ b = some g → g ≠ .tree → g ≠ .sarr → w'.heap[b]? = w.heap[b]?) :
    Rep κ' { L with ss := v', sb := upd L.sb T.scopes.length b, kv := upd L.kv T.scopes.length (.slice none 0 0) } { T with scopes := T.scopes ++ [x] } w' := by
  have hsp : ∀ n, n ≤ T.scopes.length → Lay.sp { L with ss := v', sb := upd L.sb T.scopes.length b, kv := upd L.kv T.scopes.length (.slice none 0 0) } n = L.sp n := fun n hn => by
    unfold Lay.sp
    by_cases e : n = 0
    · simp [e]
    · simp only [e, if_false]
      rw [upd_other _ _ (by omega)]
  exact {
    lt := hlt
    tree := htree
    ktree := hκ _ _ R.ktree
    ts := owns_of R.ts fun b hb => h _ _ (R.kts b hb) (by simp) (by simp)
    kts := fun b hb => hκ _ _ (R.kts b hb)
    ss := by
      simp only [List.length_append, List.length_singleton, List.range_succ, List.map_append, List.map_cons, List.map_nil]
      rw [map_upd_range (L := L), upd_same]
      exact hv
    kss := hk
    scope := fun j y hj => by
      rcases snoc_look j y hj with ⟨rfl, rfl⟩ | ⟨hlt, hj'⟩
      · show Blk w' (upd L.sb _ b _) _ _
        rw [upd_same]; exact hb
      · show Blk w' (upd L.sb _ b j) _ _
        rw [upd_other _ _ (by omega)]
        have e : Lay.scells { L with ss := v', sb := upd L.sb T.scopes.length b, kv := upd L.kv T.scopes.length (.slice none 0 0) } j y = L.scells j y := by
          simp [Lay.scells, upd, Nat.ne_of_lt hlt, Lay.tp]
        rw [e]
        exact (R.scope j y hj').of (h _ _ (R.kscope j y hj') (by simp) (by simp))
    kscope := fun j y hj => by
      rcases snoc_look j y hj with ⟨rfl, rfl⟩ | ⟨hlt, hj'⟩
      · show κ' (upd L.sb _ b _) = _
        rw [upd_same]; exact hkb
      · show κ' (upd L.sb _ b j) = _
        rw [upd_other _ _ (by omega)]
        exact hκ _ _ (R.kscope j y hj')
    task := fun j y hj => by
      have e : Lay.tcells { L with ss := v', sb := upd L.sb T.scopes.length b, kv := upd L.kv T.scopes.length (.slice none 0 0) } j y = L.tcells j y := by
        simp only [Lay.tcells, hsp _ (hin j y hj)]
      rw [e]
      exact (R.task j y hj).of (h _ _ (R.ktask j y hj) (by simp) (by simp))
    ktask := fun j y hj => hκ _ _ (R.ktask j y hj)
    kid := fun j y hj => by
      rcases snoc_look j y hj with ⟨rfl, rfl⟩ | ⟨hlt, hj'⟩
      · show w'.ownsRow 0 _ 1 (upd L.kv _ _ _) _ _
        rw [upd_same, ho]; exact World.ownsRow_nil _ _ _ _
      · show w'.ownsRow 0 _ 1 (upd L.kv _ _ j) _ _
        rw [upd_other _ _ (by omega)]
        exact owns_of (R.kid j y hj') fun b hb => h _ _ (R.kkid j y hj' b hb) (by simp) (by simp)
    kkid := fun j y hj => by
      rcases snoc_look j y hj with ⟨rfl, rfl⟩ | ⟨hlt, hj'⟩
      · show ∀ b, (upd L.kv _ _ _).ownBlock = some b → _
        rw [upd_same]; intro b hb; cases hb
      · show ∀ b, (upd L.kv _ _ j).ownBlock = some b → _
        rw [upd_other _ _ (by omega)]
        exact fun b hb => hκ _ _ (R.kkid j y hj' b hb)
    opn := fun j y hj => by
      have e : y.opn.map (Lay.sp { L with ss := v', sb := upd L.sb T.scopes.length b, kv := upd L.kv T.scopes.length (.slice none 0 0) }) = y.opn.map L.sp :=
        List.map_congr_left fun n hn => hsp n (hopn j y hj n hn)
      rw [e]
      exact owns_of (R.opn j y hj) fun b hb => h _ _ (R.kopn j y hj b hb) (by simp) (by simp)
    kopn := fun j y hj b hb => hκ _ _ (R.kopn j y hj b hb) }

end
end Go.Proofs.Ytoonkidlbnndcaa

namespace Go.Proofs.Ytoonkidlbnndcaa
set_option linter.unusedVariables false
set_option linter.unusedSimpArgs false
open Go.RowKit

theorem cells_new_at (w : World) (cs : Array Value) (t : TypeId) : ∀ j u, cs.toList[j]? = some u → (w.alloc (.cells cs t)).cell? ((⟨w.heap.size, 0, none⟩ : Addr).add j) = some u := by
  intro j u hj
  have e : (⟨w.heap.size, 0, none⟩ : Addr).add j = ⟨w.heap.size, j, none⟩ := by unfold Addr.add; split <;> simp_all
  rw [e]
  exact (Blk.new w t cs).cell j (by simpa using hj)

theorem wpList_push {P : Program} {w0 : World} {ops : Array Oper} {rest : List Oper} {o : Oper} {a : Act} {Q : Exit → Act → World → Prop} (hgd : o.guard = none) (s x : Operand) (t : TypeId)
    (ho : o.op = .call { callee := .builtin .append, args := #[s, x], argTypes := #[t, t] })
    (e : TypeId) (size bytes : Nat) (z : Value) (hinfo : (P.info? e).map (fun i => (i.zero, i.size, i.bytes)) = some (some z, size, bytes)) (hzs : z.cells.size = size) (hsz : 0 < size) (hby : bytes ≤ 64) (ht : P.underlying t = some (.slice e))
    (v : Value) (n : Nat) (xs : List Value) (hs : a.eval s = v) (hown : w0.ownsRow 0 e size v n xs)
    (cs : Array Value) (ad : Addr) (hx : a.eval x = .slice (some ad) 1 1) (had : ad = ⟨w0.heap.size, 0, none⟩) (hcs : cs.size = size) (h1 : ∀ u ∈ cs.toList, u.oneCell' = true) (hn : n ≤ 1000000)
    (h : ∀ g cap w', w'.ownsRow 0 e size (.slice (some ⟨g, 0, none⟩) (n + 1) cap) (n + 1) (xs ++ cs.toList) → w0.grownBy w' v.ownBlock → (v.ownBlock = some g ∨ w0.heap.size ≤ g) → wpList P ops Q rest (a.put o.dst (.slice (some ⟨g, 0, none⟩) (n + 1) cap)) w') :
    wpList P ops Q (o :: rest) a (w0.alloc (.cells cs e)) := by
  obtain ⟨i, hi, hz0, hz1, hz2⟩ := info_parts hinfo
  subst had
  refine wpList_append_own_at _ hgd s x t ho 0 e i z size bytes ht hi hz0 hz1 hz2 hzs hsz v n xs hs (hown.alloc _) ⟨w0.heap.size, 0, none⟩ 1 1 cs.toList hx (by simp [hcs]) (cells_new_at _ _ _) h1 (by unfold maxLen; omega) ?_ (Nat.zero_le _) ?_
  · have : (n + 1) * bytes ≤ 1000001 * 64 := Nat.mul_le_mul (by omega) hby
    omega
  · intro v' w1 hown' hgrow _ hat
    obtain ⟨g, cap, rfl⟩ : ∃ g cap, v' = .slice (some ⟨g, 0, none⟩) (n + 1) cap := by
      rcases hown'.2 with ⟨_, h⟩ | ⟨g, cap, _, h, _⟩
      · omega
      · exact ⟨g, cap, h⟩
    refine h g cap w1 hown' ((World.grownBy_alloc w0 _ _).trans hgrow) ?_
    rcases hat with hat | hat
    · exact .inl (by simpa [Value.ownBlock] using hat.symm)
    · refine .inr ?_
      have : g = w0.heap.size + 1 := by simpa [Value.ownBlock] using hat
      omega

/-- The same in a region that draws its order. -/
theorem step_push {P : Program} {w : World} {ops : Array Oper} {o : Oper} {a : Act} {K : Act → World → Prop} {Q : Exit → Act → World → Prop} {E : Prop} (hgd : o.guard = none) (s x : Operand) (t : TypeId)
    (ho : o.op = .call { callee := .builtin .append, args := #[s, x], argTypes := #[t, t] })
    (e : TypeId) (size bytes : Nat) (z : Value) (hinfo : (P.info? e).map (fun i => (i.zero, i.size, i.bytes)) = some (some z, size, bytes)) (hzs : z.cells.size = size) (hsz : 0 < size) (hby : bytes ≤ 64) (ht : P.underlying t = some (.slice e))
    (v : Value) (n : Nat) (xs : List Value) (hs : a.eval s = v) (hown : w.ownsRow 0 e size v n xs)
    (cs : List Value) (ad : Addr) (hx : a.eval x = .slice (some ad) 1 1) (hnews : ∀ j u, cs[j]? = some u → w.cell? (ad.add j) = some u) (hcs : cs.length = size) (h1 : ∀ u ∈ cs, u.oneCell' = true) (hn : n ≤ 1000000)
    (h : ∀ g cap w', w'.ownsRow 0 e size (.slice (some ⟨g, 0, none⟩) (n + 1) cap) (n + 1) (xs ++ cs) → w.grownBy w' v.ownBlock → (v.ownBlock = some g ∨ w.heap.size ≤ g) → K (a.put o.dst (.slice (some ⟨g, 0, none⟩) (n + 1) cap)) w') :
    if Region.wanted o (yielded ops a.tmps) = true then Oper.wp P o a w K Q else E := by
  obtain ⟨i, hi, hz0, hz1, hz2⟩ := info_parts hinfo
  have hw : Region.wanted o (yielded ops a.tmps) = true := by simp [Region.wanted, hgd]
  rw [if_pos hw]
  obtain ⟨v', w', hr, h2, h3, _, h5⟩ := run_append_own_at (P := P) w 0 t o.type e i z size bytes ht hi hz0 hz1 hz2 hzs hsz v n xs hown ad 1 1 cs (by simp [hcs]) hnews h1 (by unfold maxLen; omega) (by
    have : (n + 1) * bytes ≤ 1000001 * 64 := Nat.mul_le_mul (by omega) hby
    omega) (Nat.zero_le _)
  obtain ⟨g, cap, rfl⟩ : ∃ g cap, v' = .slice (some ⟨g, 0, none⟩) (n + 1) cap := by
    rcases h2.2 with ⟨_, h⟩ | ⟨g, cap, _, h, _⟩
    · omega
    · exact ⟨g, cap, h⟩
  unfold Oper.wp execOp
  simp only [ho, resolve, invoke, builtin, Sem.run_bind, Sem.run_pure, Result.andThen_ok, List.map_toArray, List.map_cons, List.map_nil, hs, hx, hr]
  refine h g cap w' h2 h3 ?_
  rcases h5 with hat | hat
  · exact .inl (by simpa [Value.ownBlock] using hat.symm)
  · refine .inr ?_
    have : g = w.heap.size := by simpa [Value.ownBlock] using hat
    omega

theorem run_append_nothing {P : Program} {w : World} (t ty e : TypeId) (i : TypeInfo) (size : Nat) (ht : P.underlying t = some (.slice e)) (hi : P.info? e = some i)
    (v : Value) (n : Nat) (xs : List Value) (hown : w.ownsRow 0 e size v n xs) (c : Nat) : (Builtin.append_ #[t, t] ty #[v, .slice none 0 c]).run P w = .ok v w := by
  rcases hown.2 with ⟨rfl, rfl⟩ | ⟨g, cap, cur, rfl, _, _, hnc, _⟩
  · simp [Builtin.append_, run_underlying ht, sizeOf, typeInfo, hi, Builtin.lenOf, Builtin.firstCells]
  · simp [Builtin.append_, run_underlying ht, sizeOf, typeInfo, hi, Builtin.lenOf, Builtin.firstCells, hnc, storeCells]

/-- append of all of a slice that somebody owns to a slice that the program owns. -/
theorem wpList_extend {P : Program} {w : World} {ops : Array Oper} {rest : List Oper} {o : Oper} {a : Act} {Q : Exit → Act → World → Prop} (hgd : o.guard = none) (s x : Operand) (t : TypeId)
    (ho : o.op = .call { callee := .builtin .append, args := #[s, x], argTypes := #[t, t] })
    (e : TypeId) (size bytes : Nat) (z : Value) (hinfo : (P.info? e).map (fun i => (i.zero, i.size, i.bytes)) = some (some z, size, bytes)) (hzs : z.cells.size = size) (hsz : 0 < size) (hby : bytes ≤ 64) (ht : P.underlying t = some (.slice e))
    (v : Value) (n : Nat) (xs : List Value) (hs : a.eval s = v) (hown : w.ownsRow 0 e size v n xs)
    (v2 : Value) (m : Nat) (ys : List Value) (hx : a.eval x = v2) (hown2 : w.ownsRow 0 e size v2 m ys) (h1 : ∀ u ∈ ys, u.oneCell' = true) (hn : n + m ≤ 1000000)
    (h : ∀ v' w', w'.ownsRow 0 e size v' (n + m) (xs ++ ys) → w.grownBy w' v.ownBlock → (v'.ownBlock = v.ownBlock ∨ v'.ownBlock = some w.heap.size) → wpList P ops Q rest (a.put o.dst v') w') :
    wpList P ops Q (o :: rest) a w := by
  obtain ⟨i, hi, hz0, hz1, hz2⟩ := info_parts hinfo
  have hown2' := hown2
  rcases hown2.2 with ⟨rfl, rfl⟩ | ⟨g, cap, cur, rfl, _, hg, hnc, hm, _⟩
  · have hy : ys = [] := List.eq_nil_of_length_eq_zero (by simpa using hown2.1)
    subst hy
    refine wpList_plain hgd fun K hK => ?_
    have hr := run_append_nothing (P := P) (w := w) t o.type e i size ht hi v n xs hown 0
    unfold Oper.wp execOp
    simp only [ho, resolve, invoke, builtin, Sem.run_bind, Sem.run_pure, Result.andThen_ok, List.map_toArray, List.map_cons, List.map_nil, hs, hx, hr]
    exact hK _ _ (h v w (by simpa using hown) (World.grownBy.refl w _) (.inl rfl))
  · refine wpList_append_own_at _ hgd s x t ho 0 e i z size bytes ht hi hz0 hz1 hz2 hzs hsz v n xs hs hown ⟨g, 0, none⟩ m cap ys hx hown2.1 (hown2'.cells (g := g) rfl) h1 (by unfold maxLen; omega) ?_ (Nat.zero_le _) ?_
    · have : (n + m) * bytes ≤ 1000000 * 64 := Nat.mul_le_mul hn hby
      omega
    · intro v' w1 hown' hgrow _ hat
      exact h v' w1 hown' hgrow hat

theorem Try.infoTaskP : (Try.prog.info? 108).map (fun i => (i.zero, i.size, i.bytes)) = some (some (.pointer none), 1, 8) := by kernel_rfl
theorem Try.infoScopeP : (Try.prog.info? 109).map (fun i => (i.zero, i.size, i.bytes)) = some (some (.pointer none), 1, 8) := by kernel_rfl
theorem Try.infoInt : (Try.prog.info? 3).map (fun i => (i.zero, i.size, i.bytes)) = some (some (.int .i64 0), 1, 8) := by kernel_rfl
theorem Try.infoLink : (Try.prog.info? 37).map (fun i => (i.zero, i.size, i.bytes)) = some (some (.agg #[.int .i64 0, .int .i64 0]), 2, 16) := by kernel_rfl
theorem Try.infoDue : (Try.prog.info? 92).map (fun i => (i.zero, i.size, i.bytes)) = some (some (.agg #[.int .i64 0, .int .i64 0]), 2, 16) := by kernel_rfl
theorem Try.infoEffect : (Try.prog.info? 62).map (fun i => (i.zero, i.size, i.bytes)) = some (some (.agg #[.int .i64 0, .int .i64 0, .int .i64 0, .int .i64 0, .string ⟨#[]⟩]), 5, 48) := by kernel_rfl

theorem bcell {W w1 : World} (hb : Below W.heap.size W w1) : (∀ b o, b < W.heap.size → w1.cell? ⟨b, o, none⟩ = W.cell? ⟨b, o, none⟩) ∧ (∀ b o, b < W.heap.size → w1.frozen? ⟨b, o, none⟩ = W.frozen? ⟨b, o, none⟩) :=
  ⟨fun b o h => hb.cell (p := ⟨b, o, none⟩) h, fun b o h => hb.frozen (p := ⟨b, o, none⟩) h⟩

/-- A slice's block is new. -/
def Fresh (w : World) (v : Value) : Prop := ∀ b, v.ownBlock = some b → w.heap.size ≤ b

theorem one_ptr (a : Option Addr) : ∀ u ∈ (#[Value.pointer a] : Array Value).toList, u.oneCell' = true := by simp [Value.oneCell']

end Go.Proofs.Ytoonkidlbnndcaa
