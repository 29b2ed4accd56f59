/-
  What stays true of a grove; its methods as functions.
-/
import Derived.Test.YtoonkidlbnndcaaFit
import Derived.Test.YtoonkidlbnndcaaNext
namespace Go.Proofs.Ytoonkidlbnndcaa
set_option linter.unusedVariables false
set_option linter.unusedSimpArgs false
open Go.RowKit

structure InvG (G : GroveA) : Prop where
  inv : Inv G.tree
  tasks : G.tasks.Nodup ∧ ∀ n ∈ G.tasks, 1 ≤ n ∧ n ≤ G.tree.tasks.length
  scopes : G.scopes.Nodup ∧ ∀ n ∈ G.scopes, 1 ≤ n ∧ n ≤ G.tree.scopes.length
  sorted : G.dues.Pairwise dueLe
  once : (G.dues.map Prod.snd).Nodup
  valid : ∀ d ∈ G.dues, 0 ≤ d.1 ∧ d.1 ≤ 1000000000000 ∧ 1 ≤ d.2 ∧ d.2 ≤ G.tree.scopes.length

/-- A deadline more, at its place. -/
def insD (d : Int × Int) : List (Int × Int) → List (Int × Int)
  | [] => [d]
  | a :: l => if dueLtB a d then a :: insD d l else d :: a :: l

theorem insD_perm (d : Int × Int) : ∀ l, (insD d l).Perm (d :: l)
  | [] => List.Perm.refl _
  | a :: l => by
    unfold insD
    split
    · exact ((insD_perm d l).cons a).trans (List.Perm.swap d a l)
    · exact List.Perm.refl _

theorem insD_sorted (d : Int × Int) : ∀ l, l.Pairwise dueLe → (insD d l).Pairwise dueLe
  | [], _ => by simp [insD]
  | a :: l, h => by
    rw [List.pairwise_cons] at h
    unfold insD
    split
    · rename_i hlt
      rw [List.pairwise_cons]
      refine ⟨fun b hb => ?_, insD_sorted d l h.2⟩
      rcases List.mem_cons.1 ((insD_perm d l).mem_iff.1 hb) with rfl | hb
      · exact dueLt_le hlt
      · exact h.1 b hb
    · rename_i hlt
      have hda : dueLe d a := dueLt_not (by simpa using hlt)
      rw [List.pairwise_cons, List.pairwise_cons]
      exact ⟨fun b hb => by
        rcases List.mem_cons.1 hb with rfl | hb
        · exact hda
        · exact dueLe_trans hda (h.1 b hb), h⟩

/- ## The methods -/

def GroveA.openG (G : GroveA) (n : Int) (sup : Bool) (m : Int) : GroveA × Int × Int :=
  ((if (G.tree.openR n sup).2.2 = 0 ∧ 0 ≤ m ∧ m ≤ 1000000000000 then { G with tree := (G.tree.openR n sup).1, dues := insD (m, (G.tree.openR n sup).2.1) G.dues } else G.on (G.tree.openR n sup).1),
    (G.tree.openR n sup).2.1, (G.tree.openR n sup).2.2)
def GroveA.turned (G : GroveA) (r : TreeA × List EffA × Int) : GroveA × List EffA × Int := (((G.on r.1).turn r.2.1).1, ((G.on r.1).turn r.2.1).2, r.2.2)
def GroveA.leaveG (G : GroveA) (n : Int) (f : Flt) : GroveA × List EffA × Int := G.turned (G.tree.leaveR n f)
def GroveA.endG (G : GroveA) (n : Int) (f : Flt) : GroveA × List EffA × Int := G.turned (G.tree.endR n f)
def GroveA.failG (G : GroveA) (n : Int) (f : Flt) : GroveA × List EffA × Int := G.turned (G.tree.failR n f)
/-- The first scope that a task has open. -/
def TreeA.outerT (T : TreeA) (n : Int) : List Nat := match T.run? n with
  | none => []
  | some i => match T.tasks[i]? with
    | none => []
    | some x => if outerN x.opn = 0 then [] else belowN T (T.scopes.length + 1) (outerN x.opn - 1)
def GroveA.strikeT (G : GroveA) (n : Int) : GroveA × List EffA × Int := match G.tree.run? n with
  | none => (G, [], 6)
  | some i => (G.strikeG false n, G.strikeE false n ((i + 1) :: G.tree.outerT n), 0)
def lateFlt : Flt := ⟨1, ⟨#[108, 97, 116, 101]⟩⟩
/-- A deadline comes. -/
def GroveA.comes (G : GroveA) (n : Int) : GroveA × List EffA :=
  ((G.failG n lateFlt).1.strikeG true n, (G.failG n lateFlt).2.1 ++ (G.failG n lateFlt).1.strikeE true n ((G.failG n lateFlt).1.tree.reach (n.toNat - 1)))
def GroveA.expireN : Nat → GroveA → Int → GroveA × List EffA
  | 0, G, _ => (G, [])
  | k + 1, G, now => match G.overG.dues with
    | [] => (G.overG, [])
    | d :: l => if d.1 ≤ now then
        ((GroveA.expireN k ({ G.overG with dues := l }.comes d.2).1 now).1, ({ G.overG with dues := l }.comes d.2).2 ++ (GroveA.expireN k ({ G.overG with dues := l }.comes d.2).1 now).2)
      else (G.overG, [])
def GroveA.expireG (G : GroveA) (now : Int) : GroveA × List EffA := GroveA.expireN (G.dues.length + 1) G now

section
variable {G : GroveA}

theorem InvG.fit (I : InvG G) : FitG G where
  tree := I.inv.fit
  tasks := ⟨I.tasks.1, fun n hn => ⟨(I.tasks.2 n hn).1, by have := (I.tasks.2 n hn).2; have := I.inv.nt; omega⟩⟩
  scopes := ⟨I.scopes.1, fun n hn => ⟨(I.scopes.2 n hn).1, by have := (I.scopes.2 n hn).2; have := I.inv.ns; omega⟩⟩
  sorted := I.sorted
  once := I.once
  valid := I.valid

theorem InvG.on (I : InvG G) {T : TreeA} (h : Inv T) (h1 : G.tree.tasks.length ≤ T.tasks.length) (h2 : G.tree.scopes.length ≤ T.scopes.length) : InvG (G.on T) where
  inv := h
  tasks := ⟨I.tasks.1, fun n hn => ⟨(I.tasks.2 n hn).1, Int.le_trans (I.tasks.2 n hn).2 (by show _ ≤ (T.tasks.length : Int); omega)⟩⟩
  scopes := ⟨I.scopes.1, fun n hn => ⟨(I.scopes.2 n hn).1, Int.le_trans (I.scopes.2 n hn).2 (by show _ ≤ (T.scopes.length : Int); omega)⟩⟩
  sorted := I.sorted
  once := I.once
  valid := fun d hd => by
    obtain ⟨a, b, c, e⟩ := I.valid d hd
    exact ⟨a, b, c, Int.le_trans e (by show _ ≤ (T.scopes.length : Int); omega)⟩

theorem InvG.strike (I : InvG G) {sc : Bool} {n : Int} (h1 : 1 ≤ n) (h2 : n ≤ if sc then (G.tree.scopes.length : Int) else G.tree.tasks.length) : InvG (G.strikeG sc n) := by
  unfold GroveA.strikeG
  split
  · exact I
  · rename_i hn
    unfold GroveA.mark
    cases sc
    · exact { I with tasks := ⟨List.nodup_cons.2 ⟨hn, I.tasks.1⟩, fun m hm => by
        rcases List.mem_cons.1 hm with rfl | hm
        · exact ⟨h1, h2⟩
        · exact I.tasks.2 m hm⟩ }
    · exact { I with scopes := ⟨List.nodup_cons.2 ⟨hn, I.scopes.1⟩, fun m hm => by
        rcases List.mem_cons.1 hm with rfl | hm
        · exact ⟨h1, h2⟩
        · exact I.scopes.2 m hm⟩ }

theorem InvG.over (I : InvG G) : InvG G.overG := by
  have hsub : G.overG.dues.Sublist G.dues := List.dropWhile_sublist _
  exact { I with
    sorted := I.sorted.sublist hsub
    once := I.once.sublist (hsub.map _)
    valid := fun d hd => I.valid d (hsub.subset hd) }

theorem InvG.tail (I : InvG G) {d : Int × Int} {l : List (Int × Int)} (h : G.dues = d :: l) : InvG { G with dues := l } where
  inv := I.inv
  tasks := I.tasks
  scopes := I.scopes
  sorted := by have := I.sorted; rw [h] at this; exact (List.pairwise_cons.1 this).2
  once := by have := I.once; rw [h] at this; exact (List.nodup_cons.1 this).2
  valid := fun x hx => I.valid x (by rw [h]; exact List.mem_cons_of_mem _ hx)

theorem turn_tree : ∀ (es : List EffA) (G : GroveA), (G.turn es).1.tree = G.tree ∧ (G.turn es).1.dues = G.dues ∧ (G.turn es).1.tasks = G.tasks
  | [], G => ⟨rfl, rfl, rfl⟩
  | e :: es, G => by
    unfold GroveA.turn
    split
    · obtain ⟨h1, h2, h3⟩ := turn_tree es (G.strikeG true e.n)
      refine ⟨h1.trans (strikeG_tree _ _ _), h2.trans ?_, h3.trans ?_⟩ <;> (unfold GroveA.strikeG; split <;> rfl)
    · exact turn_tree es G

theorem InvG.turn : ∀ (es : List EffA) {G : GroveA}, InvG G → (∀ e ∈ es, e.kind = 1 → ∃ i : Nat, i < G.tree.scopes.length ∧ e.n = (i : Int) + 1) → InvG (G.turn es).1
  | [], G, I, _ => I
  | e :: es, G, I, h => by
    unfold GroveA.turn
    split
    · rename_i hk
      obtain ⟨i, hi, hn⟩ := h e (by simp) hk
      refine InvG.turn es (I.strike (by omega) (by simp; omega)) (fun e he hk => ?_)
      rw [strikeG_tree]
      exact h e (by simp [he]) hk
    · exact InvG.turn es I (fun e he => h e (by simp [he]))

theorem InvG.turned (I : InvG G) {r : TreeA × List EffA × Int} (h : Inv r.1) (h1 : G.tree.tasks.length ≤ r.1.tasks.length) (h2 : G.tree.scopes.length ≤ r.1.scopes.length) (h3 : EffsOk r.1 r.2.1) : InvG (G.turned r).1 :=
  (I.on h h1 h2).turn _ h3.2

theorem InvG.leaveG (I : InvG G) (n : Int) (f : Flt) : InvG (G.leaveG n f).1 := by
  obtain ⟨h1, h2, h3⟩ := leaveR_ok (T := G.tree) n f
  exact I.turned (I.inv.leaveR n f) (by omega) (by omega) h3
theorem InvG.endG (I : InvG G) (n : Int) (f : Flt) : InvG (G.endG n f).1 := by
  obtain ⟨h1, h2, h3⟩ := endR_ok (T := G.tree) n f
  exact I.turned (I.inv.endR n f) (by omega) (by omega) h3
theorem InvG.failG (I : InvG G) (n : Int) (f : Flt) : InvG (G.failG n f).1 := by
  obtain ⟨h1, h2, h3⟩ := failR_ok (T := G.tree) n f
  exact I.turned (I.inv.failR n f) (by rw [h2]; omega) (by omega) h3

theorem openR_ok {T : TreeA} (n : Int) (b : Bool) : (T.openR n b).1.tasks.length = T.tasks.length ∧ T.scopes.length ≤ (T.openR n b).1.scopes.length ∧ ((T.openR n b).2.2 = 0 → (T.openR n b).2.1 = (T.scopes.length : Int) + 1 ∧ (T.openR n b).1.scopes.length = T.scopes.length + 1) := by
  unfold TreeA.openR
  cases h : T.run? n with
  | none => exact ⟨rfl, Nat.le_refl _, fun h => by simp at h⟩
  | some i =>
    obtain ⟨x, hx, hr⟩ := TreeA.run?_of h
    simp only [hx]
    split
    · exact ⟨rfl, Nat.le_refl _, fun h => by simp at h⟩
    · split
      · exact ⟨rfl, Nat.le_refl _, fun h => by simp at h⟩
      · exact ⟨by simp [TreeA.opened], by simp [TreeA.opened], fun _ => ⟨rfl, by simp [TreeA.opened]⟩⟩

theorem InvG.openG (I : InvG G) (n : Int) (b : Bool) (m : Int) : InvG (G.openG n b m).1 := by
  obtain ⟨h1, h2, h3⟩ := openR_ok (T := G.tree) n b
  have I1 := I.on (I.inv.openR n b) (by omega) h2
  unfold GroveA.openG
  simp only
  split
  · rename_i hc
    obtain ⟨h4, h5⟩ := h3 hc.1
    have hp := insD_perm (m, (G.tree.openR n b).2.1) G.dues
    exact { I1 with
      sorted := insD_sorted _ _ I.sorted
      once := by
        rw [(hp.map Prod.snd).nodup_iff]
        rw [List.map_cons, List.nodup_cons]
        refine ⟨fun hm => ?_, I.once⟩
        obtain ⟨d, hd, he⟩ := List.mem_map.1 hm
        have := (I.valid d hd).2.2.2
        simp only at he
        omega
      valid := fun d hd => by
        rcases List.mem_cons.1 (hp.mem_iff.1 hd) with rfl | hd
        · exact ⟨hc.2.1, hc.2.2, by simp only; omega, by simp only; omega⟩
        · exact I1.valid d hd }
  · exact I1

theorem spawnR_ok {T : TreeA} (n : Int) : T.tasks.length ≤ (T.spawnR n).1.tasks.length ∧ (T.spawnR n).1.scopes.length = T.scopes.length := by
  have hs : ∀ j, T.tasks.length ≤ (T.spawnAt j).tasks.length ∧ (T.spawnAt j).scopes.length = T.scopes.length := fun j => by
    unfold TreeA.spawnAt
    split <;> simp
  unfold TreeA.spawnR
  cases h : T.run? n with
  | none => exact ⟨Nat.le_refl _, rfl⟩
  | some i =>
    obtain ⟨x, hx, hr⟩ := TreeA.run?_of h
    simp only [hx]
    split
    · exact ⟨Nat.le_refl _, rfl⟩
    · split
      · exact ⟨Nat.le_refl _, rfl⟩
      · split
        · exact ⟨Nat.le_refl _, rfl⟩
        · exact hs _

theorem shieldR_ok {T : TreeA} (n : Int) : (T.shieldR n).1.tasks.length = T.tasks.length ∧ (T.shieldR n).1.scopes = T.scopes := by
  unfold TreeA.shieldR
  cases h : T.run? n with
  | none => exact ⟨rfl, rfl⟩
  | some i =>
    obtain ⟨x, hx, hr⟩ := TreeA.run?_of h
    simp only [hx]
    split
    · exact ⟨rfl, rfl⟩
    · split
      · exact ⟨rfl, rfl⟩
      · exact ⟨by simp [TreeA.setOpn], rfl⟩

theorem unveilR_ok {T : TreeA} (n : Int) : (T.unveilR n).1.tasks.length = T.tasks.length ∧ (T.unveilR n).1.scopes = T.scopes := by
  unfold TreeA.unveilR
  cases h : T.run? n with
  | none => exact ⟨rfl, rfl⟩
  | some i =>
    obtain ⟨x, hx, hr⟩ := TreeA.run?_of h
    simp only [hx]
    split
    · exact ⟨rfl, rfl⟩
    · split
      · exact ⟨by simp [TreeA.setOpn], rfl⟩
      · exact ⟨rfl, rfl⟩

theorem InvG.spawnG (I : InvG G) (n : Int) : InvG (G.on (G.tree.spawnR n).1) := by
  obtain ⟨h1, h2⟩ := spawnR_ok (T := G.tree) n
  exact I.on (I.inv.spawnR n) h1 (by omega)
theorem InvG.shieldG (I : InvG G) (n : Int) : InvG (G.on (G.tree.shieldR n).1) := by
  obtain ⟨h1, h2⟩ := shieldR_ok (T := G.tree) n
  exact I.on (I.inv.shieldR n) (by omega) (by rw [h2]; omega)
theorem InvG.unveilG (I : InvG G) (n : Int) : InvG (G.on (G.tree.unveilR n).1) := by
  obtain ⟨h1, h2⟩ := unveilR_ok (T := G.tree) n
  exact I.on (I.inv.unveilR n) (by omega) (by rw [h2]; omega)
theorem InvG.rootG (I : InvG G) : InvG (G.on G.tree.rootR.1) := by
  refine I.on I.inv.rootR ?_ ?_
  · unfold TreeA.rootR; split <;> simp
  · unfold TreeA.rootR; split <;> simp

theorem InvG.strikeT (I : InvG G) (n : Int) : InvG (G.strikeT n).1 := by
  unfold GroveA.strikeT
  cases h : G.tree.run? n with
  | none => exact I
  | some i =>
    obtain ⟨hn, x, hx, _⟩ := TreeA.run?_some h
    have := (List.getElem?_eq_some_iff.1 hx).1
    exact I.strike (by omega) (by simp; omega)

theorem failG_tree (n : Int) (f : Flt) : (G.failG n f).1.tree = (G.tree.failR n f).1 ∧ (G.failG n f).1.dues = G.dues ∧ (G.failG n f).1.tasks = G.tasks := turn_tree _ _

theorem InvG.comes (I : InvG G) {n : Int} (h1 : 1 ≤ n) (h2 : n ≤ G.tree.scopes.length) : InvG (G.comes n).1 := by
  refine (I.failG n lateFlt).strike h1 ?_
  rw [(failG_tree n lateFlt).1, (failR_ok n lateFlt).1]
  simpa using h2

theorem InvG.expireN : ∀ (k : Nat) {G : GroveA}, InvG G → ∀ now, InvG (GroveA.expireN k G now).1
  | 0, G, I, now => I
  | k + 1, G, I, now => by
    unfold GroveA.expireN
    cases hd : G.overG.dues with
    | nil => exact I.over
    | cons d l =>
      simp only
      split
      · have hv := I.over.valid d (by rw [hd]; simp)
        exact InvG.expireN k ((I.over.tail hd).comes hv.2.2.1 hv.2.2.2) now
      · exact I.over

theorem inv_new {n : Nat} (h : n ≤ 64) : InvG ⟨roots n, [], [], []⟩ where
  inv := inv_roots h
  tasks := ⟨by simp, fun m hm => by simp at hm⟩
  scopes := ⟨by simp, fun m hm => by simp at hm⟩
  sorted := by simp
  once := by simp
  valid := fun d hd => by simp at hd

end
end Go.Proofs.Ytoonkidlbnndcaa
