/-
  What stays true of a tree, whatever is called.
  What stays true of a tree: a scope is over; a task has ended.
-/
import Derived.Test.YtoonkidlbnndcaaBelowT2
import Derived.Test.YtoonkidlbnndcaaLeave3
import Derived.Test.YtoonkidlbnndcaaEnd
import Derived.Test.YtoonkidlbnndcaaFail
import Derived.Test.YtoonkidlbnndcaaSpawn
import Derived.Test.YtoonkidlbnndcaaOpen2
import Derived.Test.YtoonkidlbnndcaaNew
namespace Go.Proofs.Ytoonkidlbnndcaa
set_option linter.unusedVariables false
set_option linter.unusedSimpArgs false

/-- Whether task m runs. -/
def TreeA.runsB (T : TreeA) (m : Nat) : Bool := match T.tasks[m - 1]? with
  | some x => !x.ended
  | none => false

structure Inv (T : TreeA) : Prop where
  nt : T.tasks.length ≤ 64
  ns : T.scopes.length ≤ 200
  inn : ∀ (i j : Nat) (x : TaskA), T.tasks[i]? = some x → x.inn = j + 1 → ∃ s, T.scopes[j]? = some s ∧ (i + 1) ∈ s.kids
  opn : ∀ (i j : Nat) (x : TaskA), T.tasks[i]? = some x → (j + 1) ∈ x.opn → ∃ s, T.scopes[j]? = some s ∧ s.owner = i + 1 ∧ s.over = false ∧ x.inn ≤ j
  inc : ∀ (i : Nat) (x : TaskA), T.tasks[i]? = some x → (x.opn.filter (· != 0)).Pairwise (· < ·)
  zer : ∀ (i : Nat) (x : TaskA), T.tasks[i]? = some x → x.opn.count 0 ≤ 40
  fin : ∀ (i : Nat) (x : TaskA), T.tasks[i]? = some x → x.ended = true → x.opn = []
  own : ∀ (j : Nat) (s : ScopeA), T.scopes[j]? = some s → ∃ o y, s.owner = o + 1 ∧ T.tasks[o]? = some y ∧ (s.over = false → (j + 1) ∈ y.opn)
  kid : ∀ (j : Nat) (s : ScopeA), T.scopes[j]? = some s → s.kids.Nodup ∧ ∀ m ∈ s.kids, s.owner < m ∧ ∃ x, T.tasks[m - 1]? = some x ∧ x.inn = j + 1
  live : ∀ (j : Nat) (s : ScopeA), T.scopes[j]? = some s → s.live = ((s.kids.filter T.runsB).length : Int)
  over : ∀ (j : Nat) (s : ScopeA), T.scopes[j]? = some s → s.over = true → s.live ≤ 0

theorem runsB_set {T : TreeA} {i : Nat} {x x' : TaskA} (hx : T.tasks[i]? = some x) (he : x'.ended = x.ended) (ss : List ScopeA) (m : Nat) : TreeA.runsB ⟨T.tasks.set i x', ss⟩ m = T.runsB m := by
  unfold TreeA.runsB
  simp only [List.getElem?_set]
  by_cases h : i = m - 1
  · subst h
    have := (List.getElem?_eq_some_iff.1 hx).1
    rw [if_pos rfl, if_pos this, hx]
    simp only [he]
  · rw [if_neg h]

section
variable {T : TreeA}

/-- A task is turned; what it has opened it keeps open. -/
theorem Inv.setTask (I : Inv T) {i : Nat} {x x' : TaskA} (hx : T.tasks[i]? = some x) (hi : x'.inn = x.inn) (he : x'.ended = x.ended)
    (hsub : ∀ j, (j + 1) ∈ x.opn → (j + 1) ∈ x'.opn) (hsup : ∀ j, (j + 1) ∈ x'.opn → (j + 1) ∈ x.opn) (hinc : (x'.opn.filter (· != 0)).Pairwise (· < ·)) (hz : x'.opn.count 0 ≤ 40) (hf : x'.ended = true → x'.opn = []) : Inv { T with tasks := T.tasks.set i x' } where
  nt := by simpa using I.nt
  ns := I.ns
  inn a j y hy hj := by
    rcases set_look hx a y hy with ⟨rfl, rfl⟩ | ⟨_, hy'⟩
    · exact I.inn a j x hx (hi ▸ hj)
    · exact I.inn a j y hy' hj
  opn a j y hy hj := by
    rcases set_look hx a y hy with ⟨rfl, rfl⟩ | ⟨_, hy'⟩
    · rw [hi]; exact I.opn a j x hx (hsup j hj)
    · exact I.opn a j y hy' hj
  inc a y hy := by
    rcases set_look hx a y hy with ⟨rfl, rfl⟩ | ⟨_, hy'⟩
    · exact hinc
    · exact I.inc a y hy'
  zer a y hy := by
    rcases set_look hx a y hy with ⟨rfl, rfl⟩ | ⟨_, hy'⟩
    · exact hz
    · exact I.zer a y hy'
  fin a y hy := by
    rcases set_look hx a y hy with ⟨rfl, rfl⟩ | ⟨_, hy'⟩
    · exact hf
    · exact I.fin a y hy'
  own j s hs := by
    obtain ⟨o, y, h1, h2, h3⟩ := I.own j s hs
    by_cases e : i = o
    · subst e
      have := (List.getElem?_eq_some_iff.1 hx).1
      rw [hx] at h2
      cases h2
      exact ⟨i, x', h1, by simp [this], fun h => hsub j (h3 h)⟩
    · exact ⟨o, y, h1, by simp only [List.getElem?_set, if_neg e]; exact h2, h3⟩
  kid j s hs := by
    obtain ⟨h1, h2⟩ := I.kid j s hs
    refine ⟨h1, fun m hm => ?_⟩
    obtain ⟨h3, y, h4, h5⟩ := h2 m hm
    refine ⟨h3, ?_⟩
    by_cases e : i = m - 1
    · subst e
      have := (List.getElem?_eq_some_iff.1 hx).1
      rw [hx] at h4
      cases h4
      exact ⟨x', by simp [this], hi.trans h5⟩
    · exact ⟨y, by simp only [List.getElem?_set, if_neg e]; exact h4, h5⟩
  live j s hs := by
    rw [I.live j s hs]
    congr 2
    exact List.filter_congr fun m _ => (runsB_set hx he T.scopes m).symm
  over := I.over

/-- A scope is turned; who owns it, whom it holds, whether it is over stay. -/
theorem Inv.setScope (I : Inv T) {j : Nat} {s s' : ScopeA} (hs : T.scopes[j]? = some s) (h1 : s'.owner = s.owner) (h2 : s'.over = s.over) (h3 : s'.kids = s.kids) (h4 : s'.live = s.live) : Inv { T with scopes := T.scopes.set j s' } where
  nt := I.nt
  ns := by simpa using I.ns
  inn i a x hx ha := by
    obtain ⟨t, ht, hm⟩ := I.inn i a x hx ha
    by_cases e : j = a
    · subst e
      have := (List.getElem?_eq_some_iff.1 hs).1
      rw [hs] at ht
      cases ht
      exact ⟨s', by simp [this], by rw [h3]; exact hm⟩
    · exact ⟨t, by simp only [List.getElem?_set, if_neg e]; exact ht, hm⟩
  opn i a x hx ha := by
    obtain ⟨t, ht, ho, hv, hi⟩ := I.opn i a x hx ha
    by_cases e : j = a
    · subst e
      have := (List.getElem?_eq_some_iff.1 hs).1
      rw [hs] at ht
      cases ht
      exact ⟨s', by simp [this], h1.trans ho, h2.trans hv, hi⟩
    · exact ⟨t, by simp only [List.getElem?_set, if_neg e]; exact ht, ho, hv, hi⟩
  inc := I.inc
  zer := I.zer
  fin := I.fin
  own a t ht := by
    rcases set_look hs a t ht with ⟨rfl, rfl⟩ | ⟨_, ht'⟩
    · rw [h1, h2]; exact I.own a s hs
    · exact I.own a t ht'
  kid a t ht := by
    rcases set_look hs a t ht with ⟨rfl, rfl⟩ | ⟨_, ht'⟩
    · rw [h1, h3]; exact I.kid a s hs
    · exact I.kid a t ht'
  live a t ht := by
    rcases set_look hs a t ht with ⟨rfl, rfl⟩ | ⟨_, ht'⟩
    · rw [h3, h4]; exact I.live a s hs
    · exact I.live a t ht'
  over a t ht := by
    rcases set_look hs a t ht with ⟨rfl, rfl⟩ | ⟨_, ht'⟩
    · rw [h2, h4]; exact I.over a s hs
    · exact I.over a t ht'

theorem set_at {α : Type} {l : List α} {i : Nat} (h : i < l.length) (a : α) : (l.set i a)[i]? = some a := by simp [h]
theorem snoc_at {α : Type} (l : List α) (a : α) : (l ++ [a])[l.length]? = some a := by simp
theorem look_same {α : Type} {l : List α} {i : Nat} {a b : α} (h1 : l[i]? = some a) (h2 : l[i]? = some b) : a = b := Option.some.inj (h1.symm.trans h2)
theorem look_snoc {α : Type} {l : List α} {i : Nat} {a : α} (b : α) (h : l[i]? = some a) : (l ++ [b])[i]? = some a := by
  rw [List.getElem?_append_left (List.getElem?_eq_some_iff.1 h).1]
  exact h

/-- Another root. -/
theorem Inv.root (I : Inv T) (h : T.tasks.length < 64) : Inv { T with tasks := T.tasks ++ [.new 0] } where
  nt := by simp; omega
  ns := I.ns
  inn i j x hx hj := by
    rcases snoc_look i x hx with ⟨rfl, rfl⟩ | ⟨_, hx'⟩
    · cases hj
    · exact I.inn i j x hx' hj
  opn i j x hx hj := by
    rcases snoc_look i x hx with ⟨rfl, rfl⟩ | ⟨_, hx'⟩
    · simp [TaskA.new] at hj
    · exact I.opn i j x hx' hj
  inc i x hx := by
    rcases snoc_look i x hx with ⟨rfl, rfl⟩ | ⟨_, hx'⟩
    · simp [TaskA.new]
    · exact I.inc i x hx'
  zer i x hx := by
    rcases snoc_look i x hx with ⟨rfl, rfl⟩ | ⟨_, hx'⟩
    · simp [TaskA.new]
    · exact I.zer i x hx'
  fin i x hx := by
    rcases snoc_look i x hx with ⟨rfl, rfl⟩ | ⟨_, hx'⟩
    · simp [TaskA.new]
    · exact I.fin i x hx'
  own j s hs := by
    obtain ⟨o, y, h1, h2, h3⟩ := I.own j s hs
    exact ⟨o, y, h1, look_snoc _ h2, h3⟩
  kid j s hs := by
    obtain ⟨h1, h2⟩ := I.kid j s hs
    refine ⟨h1, fun m hm => ?_⟩
    obtain ⟨h3, y, h4, h5⟩ := h2 m hm
    exact ⟨h3, y, look_snoc _ h4, h5⟩
  live j s hs := by
    rw [I.live j s hs]
    congr 2
    refine List.filter_congr fun m hm => ?_
    obtain ⟨_, y, h4, _⟩ := (I.kid j s hs).2 m hm
    unfold TreeA.runsB
    simp only [look_snoc _ h4, h4]
  over := I.over

/-- Another task in scope j. -/
theorem Inv.spawn (I : Inv T) {i j : Nat} {x : TaskA} (hx : T.tasks[i]? = some x) (hj : (j + 1) ∈ x.opn) : Inv (T.spawnAt j) := by
  unfold TreeA.spawnAt
  split
  · exact I
  rename_i h64
  obtain ⟨s, hs, ho, hov, _⟩ := I.opn i j x hx hj
  have hil := (List.getElem?_eq_some_iff.1 hx).1
  have hmod : (T.scopes.modify j fun s => { s with kids := s.kids ++ [T.tasks.length + 1], live := s.live + 1 }) = T.scopes.set j { s with kids := s.kids ++ [T.tasks.length + 1], live := s.live + 1 } := modify_set hs _
  rw [hmod]
  have hjl := (List.getElem?_eq_some_iff.1 hs).1
  have hkl : ∀ (a : Nat) (t : ScopeA), T.scopes[a]? = some t → ∀ m ∈ t.kids, m - 1 < T.tasks.length ∧ 1 ≤ m := fun a t ht m hm => by
    obtain ⟨h1, y, h2, _⟩ := (I.kid a t ht).2 m hm
    exact ⟨(List.getElem?_eq_some_iff.1 h2).1, by omega⟩
  have hru : ∀ (ss : List ScopeA) (a : Nat) (t : ScopeA), T.scopes[a]? = some t → t.kids.filter (TreeA.runsB ⟨T.tasks ++ [.new (j + 1)], ss⟩) = t.kids.filter T.runsB := fun ss a t ht => List.filter_congr fun m hm => by
    obtain ⟨_, y, h4, _⟩ := (I.kid a t ht).2 m hm
    unfold TreeA.runsB
    simp only [look_snoc _ h4, h4]
  exact {
    nt := by simp; omega
    ns := by simpa using I.ns
    inn := fun a b y hy hb => by
      rcases snoc_look a y hy with ⟨rfl, rfl⟩ | ⟨_, hy'⟩
      · have : j = b := by simpa [TaskA.new] using hb
        subst this
        exact ⟨_, set_at hjl _, by simp⟩
      · obtain ⟨t, ht, hm⟩ := I.inn a b y hy' hb
        by_cases e : j = b
        · subst e
          cases look_same hs ht
          exact ⟨_, set_at hjl _, by simp [hm]⟩
        · exact ⟨t, by simp only [List.getElem?_set, if_neg e]; exact ht, hm⟩
    opn := fun a b y hy hb => by
      rcases snoc_look a y hy with ⟨rfl, rfl⟩ | ⟨_, hy'⟩
      · simp [TaskA.new] at hb
      · obtain ⟨t, ht, h1, h2, h3⟩ := I.opn a b y hy' hb
        by_cases e : j = b
        · subst e
          cases look_same hs ht
          exact ⟨_, set_at hjl _, h1, h2, h3⟩
        · exact ⟨t, by simp only [List.getElem?_set, if_neg e]; exact ht, h1, h2, h3⟩
    inc := fun a y hy => by
      rcases snoc_look a y hy with ⟨rfl, rfl⟩ | ⟨_, hy'⟩
      · simp [TaskA.new]
      · exact I.inc a y hy'
    zer := fun a y hy => by
      rcases snoc_look a y hy with ⟨rfl, rfl⟩ | ⟨_, hy'⟩
      · simp [TaskA.new]
      · exact I.zer a y hy'
    fin := fun a y hy => by
      rcases snoc_look a y hy with ⟨rfl, rfl⟩ | ⟨_, hy'⟩
      · simp [TaskA.new]
      · exact I.fin a y hy'
    own := fun a t ht => by
      rcases set_look hs a t ht with ⟨rfl, rfl⟩ | ⟨_, ht'⟩
      · obtain ⟨o, y, h1, h2, h3⟩ := I.own a s hs
        exact ⟨o, y, h1, look_snoc _ h2, h3⟩
      · obtain ⟨o, y, h1, h2, h3⟩ := I.own a t ht'
        exact ⟨o, y, h1, look_snoc _ h2, h3⟩
    kid := fun a t ht => by
      rcases set_look hs a t ht with ⟨rfl, rfl⟩ | ⟨_, ht'⟩
      · obtain ⟨h1, h2⟩ := I.kid a s hs
        refine ⟨?_, fun m hm => ?_⟩
        · simp only
          rw [List.nodup_append]
          refine ⟨h1, by simp, fun m hm n hn => ?_⟩
          rw [List.mem_singleton] at hn
          have := hkl a s hs m hm
          omega
        · simp only at hm
          rcases List.mem_append.1 hm with hm | hm
          · obtain ⟨h3, y, h4, h5⟩ := h2 m hm
            exact ⟨h3, y, look_snoc _ h4, h5⟩
          · rw [List.mem_singleton] at hm
            subst hm
            exact ⟨by rw [ho]; simp; omega, _, snoc_at _ _, rfl⟩
      · obtain ⟨h1, h2⟩ := I.kid a t ht'
        refine ⟨h1, fun m hm => ?_⟩
        obtain ⟨h3, y, h4, h5⟩ := h2 m hm
        exact ⟨h3, y, look_snoc _ h4, h5⟩
    live := fun a t ht => by
      rcases set_look hs a t ht with ⟨rfl, rfl⟩ | ⟨_, ht'⟩
      · simp only
        rw [List.filter_append, hru _ a s hs, List.length_append]
        have : ([T.tasks.length + 1].filter (TreeA.runsB ⟨T.tasks ++ [.new (a + 1)], T.scopes.set a { s with kids := s.kids ++ [T.tasks.length + 1], live := s.live + 1 }⟩)).length = 1 := by
          simp [TreeA.runsB, TaskA.new]
        rw [this, I.live a s hs]
        simp
      · rw [hru _ a t ht']
        exact I.live a t ht'
    over := fun a t ht hv => by
      rcases set_look hs a t ht with ⟨rfl, rfl⟩ | ⟨_, ht'⟩
      · simp only at hv
        rw [hov] at hv
        cases hv
      · exact I.over a t ht' hv }

/-- A new scope of task i. -/
theorem Inv.opened (I : Inv T) {i : Nat} {x : TaskA} (hx : T.tasks[i]? = some x) (hn : T.scopes.length < 200) (hr : x.ended = false) (sup : Bool) : Inv (T.opened i x sup) := by
  have hil := (List.getElem?_eq_some_iff.1 hx).1
  have hop : ∀ (a : Nat) (y : TaskA) (b : Nat), T.tasks[a]? = some y → (b + 1) ∈ y.opn → b < T.scopes.length := fun a y b hy hb => by
    obtain ⟨s, hs, _⟩ := I.opn a b y hy hb
    exact (List.getElem?_eq_some_iff.1 hs).1
  have hle : ∀ n ∈ x.opn, n ≤ T.scopes.length := fun n hn => by
    cases n with
    | zero => omega
    | succ b => exact hop i x b hx hn
  unfold TreeA.opened
  exact {
    nt := by simpa using I.nt
    ns := by simp; omega
    inn := fun a b y hy hb => by
      rcases set_look hx a y hy with ⟨rfl, rfl⟩ | ⟨_, hy'⟩
      · obtain ⟨t, ht, hm⟩ := I.inn a b x hx hb
        exact ⟨t, look_snoc _ ht, hm⟩
      · obtain ⟨t, ht, hm⟩ := I.inn a b y hy' hb
        exact ⟨t, look_snoc _ ht, hm⟩
    opn := fun a b y hy hb => by
      rcases set_look hx a y hy with ⟨rfl, rfl⟩ | ⟨_, hy'⟩
      · rcases List.mem_append.1 hb with hb | hb
        · obtain ⟨t, ht, h1, h2, h3⟩ := I.opn a b x hx hb
          exact ⟨t, look_snoc _ ht, h1, h2, h3⟩
        · have : b = T.scopes.length := by simpa using hb
          subst this
          refine ⟨_, snoc_at _ _, rfl, rfl, ?_⟩
          simp only
          cases hi : x.inn with
          | zero => omega
          | succ q =>
            obtain ⟨t, ht, _⟩ := I.inn a q x hx hi
            have := (List.getElem?_eq_some_iff.1 ht).1
            omega
      · obtain ⟨t, ht, h1, h2, h3⟩ := I.opn a b y hy' hb
        exact ⟨t, look_snoc _ ht, h1, h2, h3⟩
    inc := fun a y hy => by
      rcases set_look hx a y hy with ⟨rfl, rfl⟩ | ⟨_, hy'⟩
      · simp only [List.filter_append]
        rw [List.pairwise_append]
        refine ⟨I.inc a x hx, by simp, fun m hm n hn => ?_⟩
        simp at hn
        subst hn
        have := hle m (List.mem_filter.1 hm).1
        omega
      · exact I.inc a y hy'
    zer := fun a y hy => by
      rcases set_look hx a y hy with ⟨rfl, rfl⟩ | ⟨_, hy'⟩
      · simp only [List.count_append]
        have := I.zer a x hx
        simp
        omega
      · exact I.zer a y hy'
    fin := fun a y hy he => by
      rcases set_look hx a y hy with ⟨rfl, rfl⟩ | ⟨_, hy'⟩
      · simp only at he
        rw [hr] at he
        cases he
      · exact I.fin a y hy' he
    own := fun a t ht => by
      rcases snoc_look a t ht with ⟨rfl, rfl⟩ | ⟨_, ht'⟩
      · exact ⟨i, _, rfl, set_at hil _, fun _ => by simp⟩
      · obtain ⟨o, y, h1, h2, h3⟩ := I.own a t ht'
        by_cases e : i = o
        · subst e
          cases look_same hx h2
          exact ⟨i, _, h1, set_at hil _, fun h => List.mem_append_left _ (h3 h)⟩
        · exact ⟨o, y, h1, by simp only [List.getElem?_set, if_neg e]; exact h2, h3⟩
    kid := fun a t ht => by
      rcases snoc_look a t ht with ⟨rfl, rfl⟩ | ⟨_, ht'⟩
      · exact ⟨by simp [ScopeA.new], fun m hm => by simp [ScopeA.new] at hm⟩
      · obtain ⟨h1, h2⟩ := I.kid a t ht'
        refine ⟨h1, fun m hm => ?_⟩
        obtain ⟨h3, y, h4, h5⟩ := h2 m hm
        refine ⟨h3, ?_⟩
        by_cases e : i = m - 1
        · subst e
          cases look_same hx h4
          exact ⟨_, set_at hil _, h5⟩
        · exact ⟨y, by simp only [List.getElem?_set, if_neg e]; exact h4, h5⟩
    live := fun a t ht => by
      rcases snoc_look a t ht with ⟨rfl, rfl⟩ | ⟨_, ht'⟩
      · simp [ScopeA.new]
      · rw [I.live a t ht']
        congr 2
        exact List.filter_congr fun m _ => (runsB_set (x' := { x with opn := x.opn ++ [T.scopes.length + 1] }) hx rfl _ m).symm
    over := fun a t ht hv => by
      rcases snoc_look a t ht with ⟨rfl, rfl⟩ | ⟨_, ht'⟩
      · simp [ScopeA.new] at hv
      · exact I.over a t ht' hv }

end
end Go.Proofs.Ytoonkidlbnndcaa

namespace Go.Proofs.Ytoonkidlbnndcaa
set_option linter.unusedVariables false
set_option linter.unusedSimpArgs false

section
variable {T : TreeA}

theorem last_not_mem {l : List Nat} {j : Nat} (h : ((l ++ [j + 1]).filter (· != 0)).Pairwise (· < ·)) : (j + 1) ∉ l := by
  intro hm
  rw [List.filter_append, List.pairwise_append] at h
  have := h.2.2 (j + 1) (List.mem_filter.2 ⟨hm, by simp⟩) (j + 1) (by simp)
  omega

/-- Scope j is over. -/
theorem Inv.finished (I : Inv T) {j o : Nat} {s s' : ScopeA} {x x' : TaskA} {l : List Nat} (hs : T.scopes[j]? = some s) (hx : T.tasks[o]? = some x) (hl : x.opn = l ++ [j + 1]) (hlive : s.live ≤ 0)
    (h1 : x'.inn = x.inn) (h2 : x'.ended = x.ended) (h3 : x'.opn = l) (h4 : s'.owner = s.owner) (h5 : s'.kids = s.kids) (h6 : s'.live = s.live) (h7 : s'.over = true) : Inv ⟨T.tasks.set o x', T.scopes.set j s'⟩ := by
  have hol := (List.getElem?_eq_some_iff.1 hx).1
  have hjl := (List.getElem?_eq_some_iff.1 hs).1
  have hnm : (j + 1) ∉ l := last_not_mem (by rw [← hl]; exact I.inc o x hx)
  have hown : s.owner = o + 1 := by
    obtain ⟨t, ht, h, _⟩ := I.opn o j x hx (by rw [hl]; simp)
    cases look_same hs ht
    exact h
  have hend : x.ended = false := by
    cases he : x.ended with
    | false => rfl
    | true => have := I.fin o x hx he; rw [hl] at this; simp at this
  exact {
    nt := by simpa using I.nt
    ns := by simpa using I.ns
    inn := fun a b y hy hb => by
      have h : ∃ t, T.scopes[b]? = some t ∧ (a + 1) ∈ t.kids := by
        rcases set_look hx a y hy with ⟨rfl, rfl⟩ | ⟨_, hy'⟩
        · exact I.inn a b x hx (h1 ▸ hb)
        · exact I.inn a b y hy' hb
      obtain ⟨t, ht, hm⟩ := h
      by_cases e : j = b
      · subst e
        cases look_same hs ht
        exact ⟨_, set_at hjl _, by rw [h5]; exact hm⟩
      · exact ⟨t, by simp only [List.getElem?_set, if_neg e]; exact ht, hm⟩
    opn := fun a b y hy hb => by
      rcases set_look hx a y hy with ⟨rfl, rfl⟩ | ⟨hne, hy'⟩
      · rw [h3] at hb
        obtain ⟨t, ht, g1, g2, g3⟩ := I.opn a b x hx (by rw [hl]; exact List.mem_append_left _ hb)
        have e : j ≠ b := fun e => hnm (e ▸ hb)
        exact ⟨t, by simp only [List.getElem?_set, if_neg e]; exact ht, g1, g2, by rw [h1]; exact g3⟩
      · obtain ⟨t, ht, g1, g2, g3⟩ := I.opn a b y hy' hb
        have e : j ≠ b := fun e => by
          subst e
          cases look_same hs ht
          omega
        exact ⟨t, by simp only [List.getElem?_set, if_neg e]; exact ht, g1, g2, g3⟩
    inc := fun a y hy => by
      rcases set_look hx a y hy with ⟨rfl, rfl⟩ | ⟨_, hy'⟩
      · rw [h3]
        have := I.inc a x hx
        rw [hl, List.filter_append, List.pairwise_append] at this
        exact this.1
      · exact I.inc a y hy'
    zer := fun a y hy => by
      rcases set_look hx a y hy with ⟨rfl, rfl⟩ | ⟨_, hy'⟩
      · have := I.zer a x hx
        rw [hl, List.count_append] at this
        rw [h3]
        omega
      · exact I.zer a y hy'
    fin := fun a y hy he => by
      rcases set_look hx a y hy with ⟨rfl, rfl⟩ | ⟨_, hy'⟩
      · rw [h2, hend] at he
        cases he
      · exact I.fin a y hy' he
    own := fun a t ht => by
      rcases set_look hs a t ht with ⟨rfl, rfl⟩ | ⟨hne, ht'⟩
      · exact ⟨o, x', h4.trans hown, set_at hol _, fun h => by rw [h7] at h; cases h⟩
      · obtain ⟨p, y, g1, g2, g3⟩ := I.own a t ht'
        by_cases e : o = p
        · subst e
          cases look_same hx g2
          refine ⟨o, x', g1, set_at hol _, fun h => ?_⟩
          have := g3 h
          rw [hl] at this
          rw [h3]
          rcases List.mem_append.1 this with h | h
          · exact h
          · simp at h; omega
        · exact ⟨p, y, g1, by simp only [List.getElem?_set, if_neg e]; exact g2, g3⟩
    kid := fun a t ht => by
      have h : t.kids.Nodup ∧ ∀ m ∈ t.kids, t.owner < m ∧ ∃ y, T.tasks[m - 1]? = some y ∧ y.inn = a + 1 := by
        rcases set_look hs a t ht with ⟨rfl, rfl⟩ | ⟨_, ht'⟩
        · rw [h4, h5]; exact I.kid a s hs
        · exact I.kid a t ht'
      refine ⟨h.1, fun m hm => ?_⟩
      obtain ⟨g1, y, g2, g3⟩ := h.2 m hm
      refine ⟨g1, ?_⟩
      by_cases e : o = m - 1
      · subst e
        cases look_same hx g2
        exact ⟨x', set_at hol _, h1.trans g3⟩
      · exact ⟨y, by simp only [List.getElem?_set, if_neg e]; exact g2, g3⟩
    live := fun a t ht => by
      have h : t.live = ((t.kids.filter T.runsB).length : Int) := by
        rcases set_look hs a t ht with ⟨rfl, rfl⟩ | ⟨_, ht'⟩
        · rw [h5, h6]; exact I.live a s hs
        · exact I.live a t ht'
      rw [h]
      congr 2
      exact List.filter_congr fun m _ => (runsB_set hx h2 _ m).symm
    over := fun a t ht hv => by
      rcases set_look hs a t ht with ⟨rfl, rfl⟩ | ⟨_, ht'⟩
      · rw [h6]; exact hlive
      · exact I.over a t ht' hv }

theorem runsB_end {i : Nat} {x x' : TaskA} (hx : T.tasks[i]? = some x) (he : x'.ended = true) (ss : List ScopeA) (m : Nat) (hm : 1 ≤ m) : TreeA.runsB ⟨T.tasks.set i x', ss⟩ m = (T.runsB m && !decide (m = i + 1)) := by
  unfold TreeA.runsB
  simp only [List.getElem?_set]
  by_cases h : i = m - 1
  · subst h
    have hl := (List.getElem?_eq_some_iff.1 hx).1
    rw [if_pos rfl, if_pos hl, hx]
    have : m = m - 1 + 1 := by omega
    simp [he, ← this]
  · rw [if_neg h]
    have : ¬ m = i + 1 := by omega
    simp [this]

theorem filter_drop_one {p : Nat → Bool} : ∀ {l : List Nat} {a : Nat}, l.Nodup → a ∈ l → p a = true → (l.filter (fun m => p m && !decide (m = a))).length + 1 = (l.filter p).length
  | [], a, _, h, _ => by simp at h
  | b :: l, a, hd, hm, hp => by
    rw [List.nodup_cons] at hd
    rcases List.mem_cons.1 hm with rfl | hm
    · have : l.filter (fun m => p m && !decide (m = a)) = l.filter p := List.filter_congr fun m hm => by
        have : m ≠ a := fun e => hd.1 (e ▸ hm)
        simp [this]
      simp [List.filter_cons, hp, this]
    · have hba : b ≠ a := fun e => hd.1 (e ▸ hm)
      have ih := filter_drop_one hd.2 hm hp
      by_cases hpb : p b = true
      · simp [List.filter_cons, hpb, hba, ih]
      · simp [List.filter_cons, hpb, hba, ih]

/-- Task i, which has nothing open, has ended; the scope in which it lies counts it no more. -/
theorem Inv.ended (I : Inv T) {i : Nat} {x x' : TaskA} (hx : T.tasks[i]? = some x) (hr : x.ended = false) (h0 : x.opn = []) (h1 : x'.inn = x.inn) (h2 : x'.ended = true) (h3 : x'.opn = [])
    (ss : List ScopeA) (hss : (x.inn = 0 ∧ ss = T.scopes) ∨ ∃ j s, x.inn = j + 1 ∧ T.scopes[j]? = some s ∧ ss = T.scopes.set j { s with live := s.live - 1 }) : Inv ⟨T.tasks.set i x', ss⟩ := by
  have hil := (List.getElem?_eq_some_iff.1 hx).1
  -- what a scope was
  have old : ∀ (a : Nat) (t : ScopeA), ss[a]? = some t → ∃ t0, T.scopes[a]? = some t0 ∧ t.owner = t0.owner ∧ t.kids = t0.kids ∧ t.over = t0.over ∧ t.live = t0.live - (if x.inn = a + 1 then 1 else 0) := fun a t ht => by
    rcases hss with ⟨hi, rfl⟩ | ⟨j, s, hi, hs, rfl⟩
    · exact ⟨t, ht, rfl, rfl, rfl, by rw [if_neg (by omega)]; simp⟩
    · rcases set_look hs a t ht with ⟨rfl, rfl⟩ | ⟨hne, ht'⟩
      · exact ⟨s, hs, rfl, rfl, rfl, by rw [if_pos hi]⟩
      · exact ⟨t, ht', rfl, rfl, rfl, by rw [if_neg (by omega)]; simp⟩
  have new : ∀ (a : Nat) (t0 : ScopeA), T.scopes[a]? = some t0 → ∃ t, ss[a]? = some t ∧ t.owner = t0.owner ∧ t.kids = t0.kids ∧ t.over = t0.over := fun a t0 ht => by
    rcases hss with ⟨hi, rfl⟩ | ⟨j, s, hi, hs, rfl⟩
    · exact ⟨t0, ht, rfl, rfl, rfl⟩
    · by_cases e : j = a
      · subst e
        cases look_same hs ht
        exact ⟨_, set_at (List.getElem?_eq_some_iff.1 hs).1 _, rfl, rfl, rfl⟩
      · exact ⟨t0, by simp only [List.getElem?_set, if_neg e]; exact ht, rfl, rfl, rfl⟩
  have hsl : ss.length = T.scopes.length := by
    rcases hss with ⟨_, rfl⟩ | ⟨_, _, _, _, rfl⟩ <;> simp
  have hru : ∀ (a : Nat) (t : ScopeA), T.scopes[a]? = some t → (t.kids.filter (TreeA.runsB ⟨T.tasks.set i x', ss⟩)) = t.kids.filter (fun m => T.runsB m && !decide (m = i + 1)) := fun a t ht => List.filter_congr fun m hm => by
    have := ((I.kid a t ht).2 m hm).1
    exact runsB_end hx h2 ss m (by omega)
  exact {
    nt := by simpa using I.nt
    ns := by show ss.length ≤ 200; rw [hsl]; exact I.ns
    inn := fun a b y hy hb => by
      have h : ∃ t, T.scopes[b]? = some t ∧ (a + 1) ∈ t.kids := by
        rcases set_look hx a y hy with ⟨rfl, rfl⟩ | ⟨_, hy'⟩
        · exact I.inn a b x hx (h1 ▸ hb)
        · exact I.inn a b y hy' hb
      obtain ⟨t0, ht0, hm⟩ := h
      obtain ⟨t, ht, _, hk, _⟩ := new b t0 ht0
      exact ⟨t, ht, by rw [hk]; exact hm⟩
    opn := fun a b y hy hb => by
      rcases set_look hx a y hy with ⟨rfl, rfl⟩ | ⟨_, hy'⟩
      · rw [h3] at hb; simp at hb
      · obtain ⟨t0, ht0, g1, g2, g3⟩ := I.opn a b y hy' hb
        obtain ⟨t, ht, ho, _, hv⟩ := new b t0 ht0
        exact ⟨t, ht, ho.trans g1, hv.trans g2, g3⟩
    inc := fun a y hy => by
      rcases set_look hx a y hy with ⟨rfl, rfl⟩ | ⟨_, hy'⟩
      · rw [h3]; simp
      · exact I.inc a y hy'
    zer := fun a y hy => by
      rcases set_look hx a y hy with ⟨rfl, rfl⟩ | ⟨_, hy'⟩
      · rw [h3]; simp
      · exact I.zer a y hy'
    fin := fun a y hy he => by
      rcases set_look hx a y hy with ⟨rfl, rfl⟩ | ⟨_, hy'⟩
      · exact h3
      · exact I.fin a y hy' he
    own := fun a t ht => by
      obtain ⟨t0, ht0, g1, g2, g3, _⟩ := old a t ht
      obtain ⟨p, y, k1, k2, k3⟩ := I.own a t0 ht0
      rw [g1, g3]
      by_cases e : i = p
      · subst e
        cases look_same hx k2
        refine ⟨i, x', k1, set_at hil _, fun h => ?_⟩
        have := k3 h
        rw [h0] at this
        simp at this
      · exact ⟨p, y, k1, by simp only [List.getElem?_set, if_neg e]; exact k2, k3⟩
    kid := fun a t ht => by
      obtain ⟨t0, ht0, g1, g2, _, _⟩ := old a t ht
      obtain ⟨k1, k2⟩ := I.kid a t0 ht0
      rw [g1, g2]
      refine ⟨k1, fun m hm => ?_⟩
      obtain ⟨q1, y, q2, q3⟩ := k2 m hm
      refine ⟨q1, ?_⟩
      by_cases e : i = m - 1
      · subst e
        cases look_same hx q2
        exact ⟨x', set_at hil _, h1.trans q3⟩
      · exact ⟨y, by simp only [List.getElem?_set, if_neg e]; exact q2, q3⟩
    live := fun a t ht => by
      obtain ⟨t0, ht0, g1, g2, g3, g4⟩ := old a t ht
      rw [g2, hru a t0 ht0, g4, I.live a t0 ht0]
      by_cases e : x.inn = a + 1
      · rw [if_pos e]
        obtain ⟨t1, ht1, hm⟩ := I.inn i a x hx e
        cases look_same ht0 ht1
        have hrb : T.runsB (i + 1) = true := by
          unfold TreeA.runsB
          simp [hx, hr]
        have := filter_drop_one (p := T.runsB) (I.kid a t0 ht0).1 hm hrb
        omega
      · rw [if_neg e]
        have : t0.kids.filter (fun m => T.runsB m && !decide (m = i + 1)) = t0.kids.filter T.runsB := List.filter_congr fun m hm => by
          have hne : m ≠ i + 1 := fun h => by
            subst h
            obtain ⟨_, y, q2, q3⟩ := (I.kid a t0 ht0).2 _ hm
            rw [Nat.add_sub_cancel] at q2
            cases look_same hx q2
            exact e q3
          simp [hne]
        rw [this]
        simp
    over := fun a t ht hv => by
      obtain ⟨t0, ht0, g1, g2, g3, g4⟩ := old a t ht
      have := I.over a t0 ht0 (g3 ▸ hv)
      rw [g4]
      split <;> omega }

end
end Go.Proofs.Ytoonkidlbnndcaa
