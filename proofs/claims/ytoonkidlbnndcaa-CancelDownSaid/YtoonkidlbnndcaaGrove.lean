/-
  The grove in memory.
  A new grove: cancel.New.
  Who is pending: (*Grove).Pending.
-/
import Derived.Test.YtoonkidlbnndcaaMapB
import Derived.Test.YtoonkidlbnndcaaHeap0
namespace Go.Proofs.Ytoonkidlbnndcaa
set_option linter.unusedVariables false
set_option linter.unusedSimpArgs false
open Go.RowKit

structure GroveA where
  tree : TreeA
  tasks : List Int
  scopes : List Int
  dues : List (Int × Int)

/-- Where a grove lies. -/
structure GAt where
  L : Lay
  g : Nat
  mt : Nat
  ms : Nat
  dv : Value

/-- The tags of a tree's blocks, and of the blocks of the grove and its deadlines. -/
def Tag.ofTree : Tag → Bool
  | .grove => false
  | .mt => false
  | .ms => false
  | .due => false
  | _ => true
def Tag.ofDues : Tag → Bool
  | .grove => true
  | .due => true
  | _ => false

/-- Of K the blocks with such tags. -/
def Kap.on (K : Kap) (p : Tag → Bool) : Kap := fun b => (K b).filter p
/-- K below n, κ from there. -/
def Kap.join (K κ : Kap) (n : Nat) : Kap := fun b => if b < n then K b else κ b

section
variable {K κ κ' : Kap} {p q : Tag → Bool} {n : Nat}
theorem Kap.on_some {b : Nat} {t : Tag} (h : K.on p b = some t) : K b = some t ∧ p t = true := by
  unfold Kap.on at h
  rw [Option.filter_eq_some_iff] at h
  exact h
theorem Kap.on_mk {b : Nat} {t : Tag} (h : K b = some t) (hp : p t = true) : K.on p b = some t := by
  unfold Kap.on
  rw [Option.filter_eq_some_iff]
  exact ⟨h, hp⟩
theorem Kap.on_none {b : Nat} (h : K b = none) : K.on p b = none := by
  unfold Kap.on
  rw [h]
  rfl
theorem Kap.on_not {b : Nat} {t : Tag} (h : K b = some t) (hp : p t = false) : K.on p b = none := by
  unfold Kap.on
  rw [h]
  simp [Option.filter, hp]
theorem Kap.on_on : (K.on p).on p = K.on p := by
  funext b
  rcases h : K b with _ | t
  · rw [Kap.on_none (Kap.on_none h), Kap.on_none h]
  · rcases hp : p t with _ | _
    · rw [Kap.on_none (Kap.on_not h hp), Kap.on_not h hp]
    · rw [Kap.on_mk (Kap.on_mk h hp) hp, Kap.on_mk h hp]
theorem Kap.join_lt {b : Nat} (h : b < n) : K.join κ n b = K b := by simp [Kap.join, h]
theorem Kap.join_ge {b : Nat} (h : n ≤ b) : K.join κ n b = κ b := by
  unfold Kap.join
  rw [if_neg (by omega)]

/-- The part that was worked on reads as it does. -/
theorem Kap.join_on (h : ∀ b, b < n → κ' b = K.on p b) : (K.join (κ'.on p) n).on p = κ'.on p := by
  funext b
  unfold Kap.on Kap.join
  by_cases hb : b < n
  · rw [if_pos hb, h b hb]
    have : (K.on p).on p b = K.on p b := by rw [Kap.on_on]
    exact this.symm
  · rw [if_neg hb]
    have : (κ'.on p).on p b = κ'.on p b := by rw [Kap.on_on]
    exact this
/-- The other part stays. -/
theorem Kap.join_off (hlt : ∀ b t, K b = some t → b < n) (hd : ∀ t, p t = true → q t = false) : (K.join (κ'.on p) n).on q = K.on q := by
  funext b
  by_cases hb : b < n
  · unfold Kap.on
    rw [Kap.join_lt hb]
  · have hK : K b = none := by
      rcases h : K b with _ | t
      · rfl
      · exact absurd (hlt b t h) hb
    rw [Kap.on_none hK]
    rcases h : κ'.on p b with _ | t
    · exact Kap.on_none (by rw [Kap.join_ge (by omega)]; exact h)
    · exact Kap.on_not (t := t) (by rw [Kap.join_ge (by omega)]; exact h) (hd t (Kap.on_some h).2)

/-- What is done within the part is done within the whole. -/
theorem Ext.lift {w w' : World} (E : Ext (K.on p) κ' w w') : Ext K (K.join (κ'.on p) w.heap.size) w w' :=
  ⟨E.os, E.tape, E.output, E.size, fun b hb hn => E.keep b hb (Kap.on_none hn), fun b hb => Kap.join_lt hb⟩

theorem Rep.on {L : Lay} {T : TreeA} {w : World} (R : Rep κ L T w) : Rep (κ.on Tag.ofTree) L T w where
  lt b g h := R.lt b g (Kap.on_some h).1
  tree := R.tree
  ktree := Kap.on_mk R.ktree rfl
  ts := R.ts
  kts b h := Kap.on_mk (R.kts b h) rfl
  ss := R.ss
  kss b h := Kap.on_mk (R.kss b h) rfl
  task := R.task
  ktask i x h := Kap.on_mk (R.ktask i x h) rfl
  scope := R.scope
  kscope i x h := Kap.on_mk (R.kscope i x h) rfl
  opn := R.opn
  kopn i x h b hb := Kap.on_mk (R.kopn i x h b hb) rfl
  kid := R.kid
  kkid i x h b hb := Kap.on_mk (R.kkid i x h b hb) rfl
end

/-- The grove G lies in w as A says; K names its blocks. -/
structure GRep (K : Kap) (A : GAt) (G : GroveA) (w : World) : Prop where
  lt : ∀ b t, K b = some t → b < w.heap.size
  rep : Rep (K.on Tag.ofTree) A.L G.tree w
  grove : Blk w A.g 88 #[.pointer (some ⟨A.L.t, 0, none⟩), .map (some A.mt), .map (some A.ms), A.dv]
  tasks : MapB w A.mt G.tasks
  scopes : MapB w A.ms G.scopes
  dues : ∃ arr, w.ownsRow 0 92 2 A.dv arr.length (arr.flatMap dueCells) ∧ arr.Perm G.dues ∧ HeapOk arr
  kg : K A.g = some .grove
  kmt : K A.mt = some .mt
  kms : K A.ms = some .ms
  kd : ∀ b, A.dv.ownBlock = some b → K b = some .due

section
variable {K : Kap} {A : GAt} {G : GroveA} {w w' : World}

/-- None of the grove's blocks has turned. -/
theorem GRep.same (R : GRep K A G w) (hs : w.heap.size ≤ w'.heap.size) (h : ∀ b t, K b = some t → w'.heap[b]? = w.heap[b]?) : GRep K A G w' where
  lt b t hb := Nat.lt_of_lt_of_le (R.lt b t hb) hs
  rep := R.rep.same hs fun b g hb => h b g (Kap.on_some hb).1
  grove := R.grove.of (h _ _ R.kg)
  tasks := R.tasks.kept (h _ _ R.kmt)
  scopes := R.scopes.kept (h _ _ R.kms)
  dues := by
    obtain ⟨arr, h1, h2, h3⟩ := R.dues
    exact ⟨arr, owns_of h1 (fun b hb => h _ _ (R.kd b hb)), h2, h3⟩
  kg := R.kg
  kmt := R.kmt
  kms := R.kms
  kd := R.kd

theorem GRep.below (R : GRep K A G w) (hb : Below w.heap.size w w') : GRep K A G w' := R.same hb.size fun b t h => hb.block b (R.lt b t h)
theorem GRep.drewN (R : GRep K A G w) (n : Nat) : GRep K A G (w.drewN n) := R.same (Nat.le_refl _) fun _ _ _ => rfl
theorem GRep.drew (R : GRep K A G w) : GRep K A G w.drew := R.same (Nat.le_refl _) fun _ _ _ => rfl
/-- What another owner does leaves a grove. -/
theorem GRep.other (R : GRep K A G w) {K2 K2' : Kap} (E : Ext K2 K2' w w') (hd : ∀ b t, K b = some t → K2 b = none) : GRep K A G w' :=
  R.same E.size fun b t h => E.keep b (R.lt b t h) (hd b t h)

theorem GRep.gcells (R : GRep K A G w) : w.cell? ⟨A.g, 0, none⟩ = some (.pointer (some ⟨A.L.t, 0, none⟩)) ∧ w.cell? ⟨A.g, 1, none⟩ = some (.map (some A.mt)) ∧ w.cell? ⟨A.g, 2, none⟩ = some (.map (some A.ms)) ∧ w.cell? ⟨A.g, 3, none⟩ = some A.dv :=
  ⟨R.grove.cell 0 rfl, R.grove.cell 1 rfl, R.grove.cell 2 rfl, R.grove.cell 3 rfl⟩

theorem gtree_some (R : GRep K A G w) : Calls Try.prog 42 #[.pointer (some ⟨A.g, 0, none⟩)] w fun e w' => e = .returned (.pointer (some ⟨A.L.t, 0, none⟩)) ∧ w = w' := by
  obtain ⟨c0, _⟩ := R.gcells
  clear R
  go_enter Try.func42, Try.ntmps42
  go_wp2
  go_ret
  exact ⟨rfl, rfl⟩

def GAt.at (A : GAt) (L : Lay) : GAt := { A with L := L }
def GroveA.on (G : GroveA) (T : TreeA) : GroveA := { G with tree := T }

/-- What a method of the tree leaves of the grove. -/
theorem GRep.step (R : GRep K A G w) {κ' : Kap} {L' : Lay} {T' : TreeA} (ht : L'.t = A.L.t) (R' : Rep κ' L' T' w') (E : Ext (K.on Tag.ofTree) κ' w w') :
    GRep (K.join (κ'.on Tag.ofTree) w.heap.size) (A.at L') (G.on T') w' := by
  have hj : ∀ b t, K b = some t → K.join (κ'.on Tag.ofTree) w.heap.size b = some t := fun b t h => (Kap.join_lt (R.lt b t h)).trans h
  have hk : ∀ b t, K b = some t → t.ofTree = false → w'.heap[b]? = w.heap[b]? := fun b t h ht => E.keep b (R.lt b t h) (Kap.on_not h ht)
  exact {
    lt := fun b t h => by
      by_cases hb : b < w.heap.size
      · exact Nat.lt_of_lt_of_le hb E.size
      · rw [Kap.join_ge (by omega)] at h
        exact R'.lt b t (Kap.on_some h).1
    rep := by rw [Kap.join_on E.old]; exact R'.on
    grove := by
      have := R.grove.of (hk _ _ R.kg rfl)
      show Blk w' A.g _ #[.pointer (some ⟨L'.t, 0, none⟩), _, _, _]
      rw [ht]
      exact this
    tasks := R.tasks.kept (hk _ _ R.kmt rfl)
    scopes := R.scopes.kept (hk _ _ R.kms rfl)
    dues := by
      obtain ⟨arr, h1, h2, h3⟩ := R.dues
      exact ⟨arr, owns_of h1 (fun b hb => hk _ _ (R.kd b hb) rfl), h2, h3⟩
    kg := hj _ _ R.kg
    kmt := hj _ _ R.kmt
    kms := hj _ _ R.kms
    kd := fun b hb => hj _ _ (R.kd b hb) }

/-- The deadlines as they lie behind a change. -/
theorem GRep.duesStep (R : GRep K A G w) {κ' : Kap} {dv' : Value} {arr' ds' : List (Int × Int)} (E : Ext (K.on Tag.ofDues) κ' w w') (hl : ∀ b t, κ' b = some t → b < w'.heap.size)
    (hg : Blk w' A.g 88 #[.pointer (some ⟨A.L.t, 0, none⟩), .map (some A.mt), .map (some A.ms), dv']) (hr : w'.ownsRow 0 92 2 dv' arr'.length (arr'.flatMap dueCells)) (hp : arr'.Perm ds') (ho : HeapOk arr')
    (hd : ∀ b, dv'.ownBlock = some b → κ' b = some .due) : GRep (K.join (κ'.on Tag.ofDues) w.heap.size) { A with dv := dv' } { G with dues := ds' } w' := by
  have hj : ∀ b t, K b = some t → K.join (κ'.on Tag.ofDues) w.heap.size b = some t := fun b t h => (Kap.join_lt (R.lt b t h)).trans h
  have hk : ∀ b t, K b = some t → t.ofDues = false → w'.heap[b]? = w.heap[b]? := fun b t h ht => E.keep b (R.lt b t h) (Kap.on_not h ht)
  exact {
    lt := fun b t h => by
      by_cases hb : b < w.heap.size
      · exact Nat.lt_of_lt_of_le hb E.size
      · rw [Kap.join_ge (by omega)] at h
        exact hl b t (Kap.on_some h).1
    rep := by
      rw [Kap.join_off R.lt (fun t ht => by cases t <;> simp_all [Tag.ofTree, Tag.ofDues])]
      exact R.rep.same E.size fun b t hb => by
        have hb := Kap.on_some hb
        exact hk b t hb.1 (by have := hb.2; cases t <;> simp_all [Tag.ofTree, Tag.ofDues])
    grove := hg
    tasks := R.tasks.kept (hk _ _ R.kmt rfl)
    scopes := R.scopes.kept (hk _ _ R.kms rfl)
    dues := ⟨arr', hr, hp, ho⟩
    kg := hj _ _ R.kg
    kmt := hj _ _ R.kmt
    kms := hj _ _ R.kms
    kd := fun b hb => by
      by_cases hbs : b < w.heap.size
      · have := hd b hb
        rw [E.old b hbs] at this
        exact hj _ _ (Kap.on_some this).1
      · rw [Kap.join_ge (by omega)]
        exact Kap.on_mk (hd b hb) rfl }

end
end Go.Proofs.Ytoonkidlbnndcaa

namespace Go.Proofs.Ytoonkidlbnndcaa
set_option linter.unusedVariables false
set_option linter.unusedSimpArgs false
open Go.RowKit

set_option maxRecDepth 100000 in
theorem gnew_bad (n : Int) (w : World) (h : n < 1 ∨ 64 < n) : Calls Try.prog 19 #[.int .i64 n] w fun e w' => e = .returned (.tuple #[.pointer none, .int .i64 2]) ∧ Below w.heap.size w w' := by
  have C := Lib.hid (tnew_bad n w h)
  clear h
  go_enter Try.func19, Try.ntmps19
  go_wp2_with (go_at_call 47; refine C.out.mono ?_; rintro e w' ⟨rfl, rfl⟩)
  go_returns
  exact ⟨rfl, by go_grown⟩

set_option maxRecDepth 100000 in
theorem gnew_ok (n : Nat) (w : World) (h1 : 1 ≤ n) (h2 : n ≤ 64) : Calls Try.prog 19 #[.int .i64 n] w fun e w' => ∃ (K : Kap) (A : GAt), e = .returned (.tuple #[.pointer (some ⟨A.g, 0, none⟩), .int .i64 0]) ∧ GRep K A ⟨roots n, [], [], []⟩ w' ∧ Ext Kap.nil K w w' := by
  have C := Lib.hid (tnew_ok n w h1 h2)
  clear h1 h2
  go_enter Try.func19, Try.ntmps19
  go_wp2_with (go_at_call 47; refine C.out.mono ?_; rintro e w1 ⟨p, rfl, hK⟩; have hK := Lib.hid hK; have m1 := run_makeMap (P := Try.prog) 84 w1; have m2 := run_makeMap (P := Try.prog) 84 (w1.alloc (.map #[] 0)))
  go_returns
  obtain ⟨κ, L, ht, R, E⟩ := hK.out
  subst ht
  have hn : ∀ b, w1.heap.size ≤ b → κ.on Tag.ofTree b = none := fun b hb => R.on.new_none hb
  refine ⟨(((κ.on Tag.ofTree).set w1.heap.size .mt).set (w1.heap.size + 1) .ms).set (w1.heap.size + 1 + 1) .grove, ⟨L, w1.heap.size + 1 + 1, w1.heap.size, w1.heap.size + 1, .slice none 0 0⟩, rfl, ?_, ?_⟩
  · have hg := Blk.new ((w1.alloc (.map #[] 0)).alloc (.map #[] 0)) 88 #[.pointer (some ⟨L.t, 0, none⟩), .map (some w1.heap.size), .map (some (w1.heap.size + 1)), .slice none 0 0]
    rw [World.size_alloc, World.size_alloc] at hg
    have hs := MapB.new (w1.alloc (.map #[] 0))
    rw [World.size_alloc] at hs
    have hon : ((((κ.on Tag.ofTree).set w1.heap.size .mt).set (w1.heap.size + 1) .ms).set (w1.heap.size + 1 + 1) .grove).on Tag.ofTree = κ.on Tag.ofTree := by
      funext b
      by_cases e1 : b = w1.heap.size + 1 + 1
      · subst e1
        rw [hn _ (by omega)]
        exact Kap.on_not (Kap.set_same _ _ _) rfl
      · by_cases e2 : b = w1.heap.size + 1
        · subst e2
          rw [hn _ (by omega)]
          exact Kap.on_not ((Kap.set_other _ _ e1).trans (Kap.set_same _ _ _)) rfl
        · by_cases e3 : b = w1.heap.size
          · subst e3
            rw [hn _ (by omega)]
            exact Kap.on_not ((Kap.set_other _ _ e1).trans ((Kap.set_other _ _ e2).trans (Kap.set_same _ _ _))) rfl
          · have : ((((κ.on Tag.ofTree).set w1.heap.size .mt).set (w1.heap.size + 1) .ms).set (w1.heap.size + 1 + 1) .grove) b = κ.on Tag.ofTree b := by
              rw [Kap.set_other _ _ e1, Kap.set_other _ _ e2, Kap.set_other _ _ e3]
            unfold Kap.on at this ⊢
            rw [this]
            exact congrFun (Kap.on_on (K := κ) (p := Tag.ofTree)) b
    exact {
      lt := fun b t hb => by
        simp only [World.size_alloc]
        by_cases e1 : b = w1.heap.size + 1 + 1
        · omega
        · by_cases e2 : b = w1.heap.size + 1
          · omega
          · by_cases e3 : b = w1.heap.size
            · omega
            · rw [Kap.set_other _ _ e1, Kap.set_other _ _ e2, Kap.set_other _ _ e3] at hb
              have := R.on.lt b t hb
              omega
      rep := by rw [hon]; exact ((R.on.alloc _).alloc _).alloc _
      grove := hg
      tasks := World.ownsMap.alloc (World.ownsMap.alloc (MapB.new w1) _) _
      scopes := World.ownsMap.alloc hs _
      dues := ⟨[], World.ownsRow_nil _ _ _ _, List.Perm.refl _, fun i a b _ h => by simp at h⟩
      kg := Kap.set_same _ _ _
      kmt := (Kap.set_other _ _ (by simp; omega)).trans ((Kap.set_other _ _ (by simp)).trans (Kap.set_same _ _ _))
      kms := (Kap.set_other _ _ (by simp)).trans (Kap.set_same _ _ _)
      kd := fun b hb => by cases hb }
  · have hs := E.size
    refine ⟨E.os, E.tape, E.output, by simp; omega, fun b hb hn => ?_, fun b hb => ?_⟩
    · rw [Below.heap_alloc _ _ _ (by simp; omega), Below.heap_alloc _ _ _ (by simp; omega), Below.heap_alloc _ _ _ (by omega)]
      exact E.keep b hb hn
    · rw [Kap.set_other _ _ (by omega), Kap.set_other _ _ (by omega), Kap.set_other _ _ (by omega)]
      exact Kap.on_none ((E.old b hb).trans rfl)

end Go.Proofs.Ytoonkidlbnndcaa

namespace Go.Proofs.Ytoonkidlbnndcaa
set_option linter.unusedVariables false
set_option linter.unusedSimpArgs false
open Go.RowKit

/-- Whether the first thing that says it, on a way up, says pending. -/
def pendL (ts ss : List Int) : List LinkA → Bool
  | [] => false
  | p :: l => if p.1 = 3 then false else if (p.1 = 1 ∧ (p.2 : Int) ∈ ts) ∨ (p.1 = 2 ∧ (p.2 : Int) ∈ ss) then true else pendL ts ss l

def TreeA.chainAt (T : TreeA) (i : Nat) : List LinkA := match T.tasks[i]? with
  | none => []
  | some x => chainN T (i + 1) i x.opn.length

def TreeA.chain (T : TreeA) (n : Int) : List LinkA := match T.run? n with
  | none => []
  | some i => T.chainAt i

def GroveA.pending (G : GroveA) (n : Int) : Bool := pendL G.tasks G.scopes (G.tree.chain n)

/-- What the walks ask of a tree. -/
structure FitT (T : TreeA) : Prop where
  up : UpOk T
  down : DownOk T
  opn : ∀ (i : Nat) (x : TaskA), T.tasks[i]? = some x → x.opn.length ≤ 1000 ∧ ∀ n ∈ x.opn, n ≤ T.scopes.length
  kids : ∀ (j : Nat) (s : ScopeA), T.scopes[j]? = some s → s.kids.length ≤ 1000
  inn : ∀ (i : Nat) (x : TaskA), T.tasks[i]? = some x → x.inn ≤ T.scopes.length
  chain : ∀ (n : Int), (T.chain n).length ≤ 100000 ∧ ∀ p ∈ T.chain n, (p.2 : Int) ≤ 1000
  below : ∀ (j : Nat), (belowN T (T.scopes.length + 1) j).length ≤ 100000
  tasks : T.tasks.length ≤ 64
  scopes : T.scopes.length ≤ 200

section
variable {κ : Kap} {L : Lay} {T : TreeA} {w w' : World}

/-- (*Tree).Chain at whatever number. -/
theorem chain_any (R : Rep κ L T w) (F : FitT T) (n : Int) :
    Calls Try.prog 45 #[.pointer (some ⟨L.t, 0, none⟩), .int .i64 n] w fun e w' => ∃ v, e = .returned (.tuple #[v, .int .i64 (if (T.run? n).isSome then 0 else 6)]) ∧
      w'.ownsRow 0 37 2 v (T.chain n).length ((T.chain n).flatMap LinkA.cells) ∧ Fresh w v ∧ Below w.heap.size w w' := by
  have hc := F.chain n
  unfold TreeA.chain at hc ⊢
  cases h : T.run? n with
  | none =>
    refine (chain_none R h).mono ?_
    rintro e w' ⟨rfl, rfl⟩
    exact ⟨_, rfl, World.ownsRow_nil _ _ _ _, fun b hb => (by cases hb), Below.refl _ _⟩
  | some i =>
    obtain ⟨_, x, hx, _⟩ := TreeA.run?_some h
    rw [h] at hc
    simp only [TreeA.chainAt, hx] at hc ⊢
    exact chain_ok R F.up h hx F.opn hc.1

end
end Go.Proofs.Ytoonkidlbnndcaa
