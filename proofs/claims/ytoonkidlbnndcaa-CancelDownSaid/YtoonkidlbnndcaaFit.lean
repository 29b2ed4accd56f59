/-
  What the walks ask of a tree follows from what stays true of it.
  (*Tree).Fail where the fault is new: and the list of effects is new.
  The methods of a tree, each as a function of the tree, and that each does as it.
  Every method of a tree keeps what stays true of it.
-/
import Derived.Test.YtoonkidlbnndcaaInv
import Derived.Test.YtoonkidlbnndcaaStrike0
import Derived.Test.YtoonkidlbnndcaaFail
import Derived.Test.YtoonkidlbnndcaaMem
import Derived.Test.YtoonkidlbnndcaaShield
namespace Go.Proofs.Ytoonkidlbnndcaa
set_option linter.unusedVariables false
set_option linter.unusedSimpArgs false

section
variable {T : TreeA}

theorem Inv.opnLe (I : Inv T) {i : Nat} {x : TaskA} (hx : T.tasks[i]? = some x) : ∀ n ∈ x.opn, n ≤ T.scopes.length := fun n hn => by
  cases n with
  | zero => omega
  | succ j =>
    obtain ⟨s, hs, _⟩ := I.opn i j x hx hn
    exact (List.getElem?_eq_some_iff.1 hs).1

theorem Inv.innLe (I : Inv T) {i : Nat} {x : TaskA} (hx : T.tasks[i]? = some x) : x.inn ≤ T.scopes.length := by
  cases h : x.inn with
  | zero => omega
  | succ j =>
    obtain ⟨s, hs, _⟩ := I.inn i j x hx h
    exact (List.getElem?_eq_some_iff.1 hs).1

theorem len_split (l : List Nat) : l.length = l.count 0 + (l.filter (· != 0)).length := by
  induction l with
  | nil => rfl
  | cons a l ih =>
    by_cases h : a = 0
    · subst h
      simp
      omega
    · simp [h, ih]
      omega

theorem inc_len {l : List Nat} {n : Nat} (h : l.Pairwise (· < ·)) (hl : ∀ x ∈ l, x < n) : l.length ≤ n :=
  nodup_bound n l (by rw [List.nodup_iff_pairwise_ne]; exact h.imp fun h => Nat.ne_of_lt h) hl

theorem Inv.opnLen (I : Inv T) {i : Nat} {x : TaskA} (hx : T.tasks[i]? = some x) : x.opn.length ≤ 300 := by
  rw [len_split]
  have h1 := I.zer i x hx
  have h2 := inc_len (n := 201) (I.inc i x hx) (fun m hm => by
    have := I.opnLe hx m (List.mem_filter.1 hm).1
    have := I.ns
    omega)
  omega

theorem Inv.kidsLen (I : Inv T) {j : Nat} {s : ScopeA} (hs : T.scopes[j]? = some s) : s.kids.length ≤ 65 := by
  obtain ⟨h1, h2⟩ := I.kid j s hs
  refine nodup_bound 65 _ h1 fun m hm => ?_
  obtain ⟨_, y, hy, _⟩ := h2 m hm
  have := (List.getElem?_eq_some_iff.1 hy).1
  have := I.nt
  omega

theorem place_of_mem {n : Nat} {l : List Nat} (h : n ∈ l) : ∃ k, placeOf n l = some k ∧ k < l.length ∧ l[k]? = some n := by
  unfold placeOf
  cases hf : l.findIdx? (· == n) with
  | none =>
    rw [List.findIdx?_eq_none_iff] at hf
    have := hf n h
    simp at this
  | some k =>
    rw [List.findIdx?_eq_some_iff_getElem] at hf
    obtain ⟨hk, he, _⟩ := hf
    exact ⟨k, rfl, hk, by rw [List.getElem?_eq_getElem hk]; simpa using he⟩

theorem place_at {n k : Nat} {l : List Nat} (h : placeOf n l = some k) : k < l.length ∧ l[k]? = some n := by
  unfold placeOf at h
  rw [List.findIdx?_eq_some_iff_getElem] at h
  obtain ⟨hk, he, _⟩ := h
  exact ⟨hk, by rw [List.getElem?_eq_getElem hk]; simpa using he⟩

/-- What is open behind a scope is later. -/
theorem inc_after {l : List Nat} {n k : Nat} (h : (l.filter (· != 0)).Pairwise (· < ·)) (hk : l[k]? = some n) (h0 : n ≠ 0) : ∀ q ∈ l.drop (k + 1), q ≠ 0 → n < q := by
  intro q hq hq0
  obtain ⟨hkl, he⟩ := List.getElem?_eq_some_iff.1 hk
  have hsplit : l = l.take k ++ n :: l.drop (k + 1) := by
    rw [← he, ← List.drop_eq_getElem_cons hkl, List.take_append_drop]
  rw [hsplit, List.filter_append, List.filter_cons, if_pos (by simpa using h0), List.pairwise_append, List.pairwise_cons] at h
  exact h.2.1.1 q (List.mem_filter.2 ⟨hq, by simpa using hq0⟩)

theorem Inv.up (I : Inv T) : UpOk T := fun i j x hx he hi => by
  obtain ⟨s, hs, hm⟩ := I.inn i j x hx hi
  obtain ⟨o, y, ho, hy, hmem⟩ := I.own j s hs
  have hlt := ((I.kid j s hs).2 _ hm).1
  have hov : s.over = false := by
    cases h : s.over with
    | false => rfl
    | true =>
      have h1 := I.over j s hs h
      have h2 := I.live j s hs
      have h3 : (i + 1) ∈ s.kids.filter T.runsB := List.mem_filter.2 ⟨hm, by unfold TreeA.runsB; simp [hx, he]⟩
      have := List.length_pos_of_mem h3
      omega
  have hyo := hmem hov
  obtain ⟨k, hk, hkl, _⟩ := place_of_mem hyo
  refine ⟨s, o, k, y, hs, ho, by omega, hy, ?_, hk, hkl⟩
  cases h : y.ended with
  | false => rfl
  | true => have := I.fin o y hy h; rw [this] at hyo; simp at hyo

theorem Inv.down (I : Inv T) : DownOk T where
  kid j s hs m hm := by
    obtain ⟨h1, y, hy, hi⟩ := (I.kid j s hs).2 m hm
    have hl := (List.getElem?_eq_some_iff.1 hy).1
    refine ⟨by omega, by omega, fun x hx _ q hq h0 => ?_⟩
    cases look_same hy hx
    cases q with
    | zero => exact absurd rfl h0
    | succ b =>
      obtain ⟨_, _, _, _, h⟩ := I.opn (m - 1) b y hy hq
      omega
  own j s hs := by
    obtain ⟨o, y, h1, h2, _⟩ := I.own j s hs
    refine ⟨o, y, h1, h2, fun k hk => ?_⟩
    obtain ⟨hkl, hkn⟩ := place_at hk
    exact ⟨hkl, inc_after (I.inc o y h2) hkn (by omega)⟩

theorem Inv.chainN (I : Inv T) : ∀ (f i top : Nat), (chainN T f i top).length ≤ f * 302 ∧ ∀ p ∈ chainN T f i top, p.2 ≤ 200
  | 0, i, top => ⟨by simp [Go.Proofs.Ytoonkidlbnndcaa.chainN], fun p hp => by simp [Go.Proofs.Ytoonkidlbnndcaa.chainN] at hp⟩
  | f + 1, i, top => by
    unfold Go.Proofs.Ytoonkidlbnndcaa.chainN
    cases hx : T.tasks[i]? with
    | none => exact ⟨by simp, fun p hp => by simp at hp⟩
    | some x =>
      simp only
      have hlen : ((x.opn.take top).reverse.map lnk).length ≤ 300 := by
        have := I.opnLen hx
        simp
        omega
      have hle : ∀ p ∈ (x.opn.take top).reverse.map lnk, p.2 ≤ 200 := fun p hp => by
        obtain ⟨m, hm, rfl⟩ := List.mem_map.1 hp
        have := I.opnLe hx m (List.mem_of_mem_take (List.mem_reverse.1 hm))
        have := I.ns
        show m ≤ 200
        omega
      have hi : i + 1 ≤ 200 := by
        have := (List.getElem?_eq_some_iff.1 hx).1
        have := I.nt
        omega
      have rest : ∀ r : List LinkA, r.length ≤ f * 302 → (∀ p ∈ r, p.2 ≤ 200) → ((x.opn.take top).reverse.map lnk ++ (1, i + 1) :: (if x.inn = 0 then [] else lnk x.inn :: r)).length ≤ (f + 1) * 302 ∧
          ∀ p ∈ (x.opn.take top).reverse.map lnk ++ (1, i + 1) :: (if x.inn = 0 then [] else lnk x.inn :: r), p.2 ≤ 200 := fun r h1 h2 => by
        refine ⟨?_, fun p hp => ?_⟩
        · rw [List.length_append, List.length_cons]
          split
          · simp only [List.length_nil]; omega
          · rw [List.length_cons]; omega
        · rcases List.mem_append.1 hp with hp | hp
          · exact hle p hp
          · rcases List.mem_cons.1 hp with rfl | hp
            · exact hi
            · split at hp
              · simp at hp
              · rcases List.mem_cons.1 hp with rfl | hp
                · have := I.innLe hx
                  have := I.ns
                  show x.inn ≤ 200
                  omega
                · exact h2 p hp
      cases hs : T.scopes[x.inn - 1]? with
      | none => exact rest [] (by simp) (fun p hp => by simp at hp)
      | some s =>
        simp only
        cases hy : T.tasks[s.owner - 1]? with
        | none => exact rest [] (by simp) (fun p hp => by simp at hp)
        | some y => exact rest _ (I.chainN f _ _).1 (I.chainN f _ _).2

end

/- ## The scopes that are visited on the way down -/

section
variable {C : Nat → List Nat}

inductive Reach (C : Nat → List Nat) : Nat → Nat → Prop
  | refl (a : Nat) : Reach C a a
  | step {a p e : Nat} : Reach C a p → e ∈ C p → Reach C a e

theorem Reach.le (hlt : ∀ j c, c ∈ C j → j < c) {a e : Nat} (h : Reach C a e) : a ≤ e := by
  induction h with
  | refl => exact Nat.le_refl _
  | step _ h ih => exact Nat.le_of_lt (Nat.lt_of_le_of_lt ih (hlt _ _ h))

theorem Reach.two (hu : ∀ j j' c, c ∈ C j → c ∈ C j' → j = j') {a b e : Nat} (h : Reach C a e) (k : Reach C b e) : Reach C a b ∨ Reach C b a := by
  induction h with
  | refl => exact .inr k
  | step h1 h2 ih =>
    cases k with
    | refl => exact .inl (.step h1 h2)
    | step k1 k2 =>
      have := hu _ _ _ h2 k2
      subst this
      exact ih k1

theorem Reach.cases_last {a e : Nat} (h : Reach C a e) : a = e ∨ ∃ p, Reach C a p ∧ e ∈ C p := by
  cases h with
  | refl => exact .inl rfl
  | step h1 h2 => exact .inr ⟨_, h1, h2⟩

theorem Reach.first {j c e : Nat} (hc : c ∈ C j) (h : Reach C c e) : Reach C j e := by
  induction h with
  | refl => exact .step (.refl _) hc
  | step _ h ih => exact .step ih h

/-- All that are reached from j, as a walk meets them. -/
def vis (C : Nat → List Nat) : Nat → Nat → List Nat
  | 0, _ => []
  | f + 1, j => j :: (C j).flatMap (vis C f)

theorem vis_reach : ∀ (f j e : Nat), e ∈ vis C f j → Reach C j e
  | 0, j, e, h => by simp [vis] at h
  | f + 1, j, e, h => by
    rcases List.mem_cons.1 h with rfl | h
    · exact .refl _
    · obtain ⟨c, hc, he⟩ := List.mem_flatMap.1 h
      exact Reach.first hc (vis_reach f c e he)

theorem vis_nodup (hlt : ∀ j c, c ∈ C j → j < c) (hnd : ∀ j, (C j).Nodup) (hu : ∀ j j' c, c ∈ C j → c ∈ C j' → j = j') : ∀ (f j : Nat), (vis C f j).Nodup
  | 0, j => by simp [vis]
  | f + 1, j => by
    unfold vis
    rw [List.nodup_cons]
    refine ⟨fun h => ?_, ?_⟩
    · obtain ⟨c, hc, he⟩ := List.mem_flatMap.1 h
      have := (vis_reach f c j he).le hlt
      have := hlt j c hc
      omega
    · rw [List.nodup_iff_pairwise_ne, List.pairwise_flatMap]
      refine ⟨fun c _ => by rw [← List.nodup_iff_pairwise_ne]; exact vis_nodup hlt hnd hu f c, ?_⟩
      refine (List.nodup_iff_pairwise_ne.1 (hnd j)).imp_of_mem fun {a b} ha hb hne x hx y hy e => ?_
      subst e
      have key : ∀ a b, a ∈ C j → b ∈ C j → a ≠ b → ¬ Reach C a b := fun a b ha hb hne h => by
        rcases h.cases_last with e | ⟨p, h1, h2⟩
        · exact hne e
        · have := hu _ _ _ h2 hb
          subst this
          have := h1.le hlt
          have := hlt _ _ ha
          omega
      rcases Reach.two hu (vis_reach f a x hx) (vis_reach f b x hy) with h | h
      · exact key a b ha hb hne h
      · exact key b a hb ha (fun e => hne e.symm) h

end

section
variable {T : TreeA}

/-- The scopes that a walk meets next: of a running task the first that it has open. -/
def kidC (T : TreeA) (m : Nat) : List Nat := match T.tasks[m - 1]? with
  | none => []
  | some x => if x.ended then [] else if outerN x.opn = 0 then [] else [outerN x.opn - 1]
def lateC (T : TreeA) (j : Nat) (s : ScopeA) : List Nat := match T.tasks[s.owner - 1]? with
  | none => []
  | some y => match placeOf (j + 1) y.opn with
    | none => []
    | some k => if outerN (y.opn.drop (k + 1)) = 0 then [] else [outerN (y.opn.drop (k + 1)) - 1]
def nextC (T : TreeA) (j : Nat) : List Nat := match T.scopes[j]? with
  | none => []
  | some s => s.kids.flatMap (kidC T) ++ lateC T j s

theorem outer_split {ns : List Nat} (h : outerN ns ≠ 0) : ∃ k, ns[k]? = some (outerN ns) ∧ ∀ q ∈ ns.take k, q = 0 := by
  unfold outerN at h ⊢
  cases hf : ns.find? (· != 0) with
  | none => rw [hf] at h; exact absurd rfl h
  | some q =>
    rw [List.find?_eq_some_iff_append] at hf
    obtain ⟨hq, l1, l2, rfl, has⟩ := hf
    refine ⟨l1.length, by simp, fun r hr => ?_⟩
    rw [List.take_left' rfl] at hr
    have := has r hr
    simpa using this

/-- Who owns a scope that is met next, and what lies before it. -/
theorem Inv.kidC_mem (I : Inv T) {j : Nat} {s : ScopeA} (hs : T.scopes[j]? = some s) {m c : Nat} (hm : m ∈ s.kids) (hc : c ∈ kidC T m) : ∃ x t, T.tasks[m - 1]? = some x ∧ x.inn = j + 1 ∧ T.scopes[c]? = some t ∧ t.owner = m ∧ (c + 1) ∈ x.opn ∧ ∀ q ∈ x.opn, q ≠ 0 → c + 1 ≤ q := by
  obtain ⟨h1, x, hx, hi⟩ := (I.kid j s hs).2 m hm
  unfold kidC at hc
  rw [hx] at hc
  simp only at hc
  split at hc
  · simp at hc
  · split at hc
    · simp at hc
    · rename_i h0
      rw [List.mem_singleton] at hc
      obtain ⟨k, hk, hz⟩ := outer_split h0
      have hc1 : outerN x.opn = c + 1 := by omega
      rw [hc1] at hk
      have hmem := List.mem_of_getElem? hk
      obtain ⟨t, ht, ho, _⟩ := I.opn (m - 1) c x hx hmem
      refine ⟨x, t, hx, hi, ht, by omega, hmem, fun q hq hq0 => ?_⟩
      obtain ⟨hkl, he⟩ := List.getElem?_eq_some_iff.1 hk
      have hsplit : x.opn = x.opn.take k ++ (c + 1) :: x.opn.drop (k + 1) := by
        rw [← he, ← List.drop_eq_getElem_cons hkl, List.take_append_drop]
      rw [hsplit] at hq
      rcases List.mem_append.1 hq with hq | hq
      · exact absurd (hz q hq) hq0
      · rcases List.mem_cons.1 hq with rfl | hq
        · exact Nat.le_refl _
        · exact Nat.le_of_lt (inc_after (I.inc _ x hx) hk (by omega) q hq hq0)

theorem Inv.lateC_mem (I : Inv T) {j : Nat} {s : ScopeA} (hs : T.scopes[j]? = some s) {c : Nat} (hc : c ∈ lateC T j s) : ∃ y t, T.tasks[s.owner - 1]? = some y ∧ T.scopes[c]? = some t ∧ t.owner = s.owner ∧ (c + 1) ∈ y.opn ∧ (j + 1) ∈ y.opn ∧ j < c ∧ ∀ q ∈ y.opn, q ≠ 0 → q ≤ j + 1 ∨ c + 1 ≤ q := by
  obtain ⟨o, y, ho, hy, _⟩ := I.own j s hs
  have hy' : T.tasks[s.owner - 1]? = some y := by rw [ho]; exact hy
  unfold lateC at hc
  rw [hy'] at hc
  simp only at hc
  cases hp : placeOf (j + 1) y.opn with
  | none => rw [hp] at hc; simp at hc
  | some k =>
    rw [hp] at hc
    simp only at hc
    split at hc
    · simp at hc
    · rename_i h0
      rw [List.mem_singleton] at hc
      obtain ⟨hkl, hk⟩ := place_at hp
      obtain ⟨r, hr, hz⟩ := outer_split h0
      have hc1 : outerN (y.opn.drop (k + 1)) = c + 1 := by omega
      rw [hc1] at hr
      have hmd := List.mem_of_getElem? hr
      have hmem := List.mem_of_mem_drop hmd
      obtain ⟨t, ht, hto, _⟩ := I.opn o c y hy hmem
      have hlt := inc_after (I.inc o y hy) hk (by omega) (c + 1) hmd (by omega)
      refine ⟨y, t, hy', ht, by rw [ho]; exact hto, hmem, List.mem_of_getElem? hk, by omega, fun q hq hq0 => ?_⟩
      have he := (List.getElem?_eq_some_iff.1 hk).2
      have hsplit : y.opn = y.opn.take k ++ (j + 1) :: y.opn.drop (k + 1) := by
        rw [← he, ← List.drop_eq_getElem_cons hkl, List.take_append_drop]
      have hinc := I.inc o y hy
      rw [hsplit] at hq hinc
      rcases List.mem_append.1 hq with hq | hq
      · rw [List.filter_append, List.pairwise_append] at hinc
        have := hinc.2.2 q (List.mem_filter.2 ⟨hq, by simpa using hq0⟩) (j + 1) (by simp)
        exact .inl (by omega)
      · rcases List.mem_cons.1 hq with rfl | hq
        · exact .inl (Nat.le_refl _)
        · right
          obtain ⟨hrl, he2⟩ := List.getElem?_eq_some_iff.1 hr
          have hsplit2 : y.opn.drop (k + 1) = (y.opn.drop (k + 1)).take r ++ (c + 1) :: (y.opn.drop (k + 1)).drop (r + 1) := by
            rw [← he2, ← List.drop_eq_getElem_cons hrl, List.take_append_drop]
          rw [List.filter_append, List.filter_cons, if_pos (by simp), List.pairwise_append, List.pairwise_cons] at hinc
          rw [hsplit2] at hq
          rcases List.mem_append.1 hq with hq | hq
          · exact absurd (hz q hq) hq0
          · rcases List.mem_cons.1 hq with rfl | hq
            · exact Nat.le_refl _
            · exact Nat.le_of_lt (inc_after hinc.2.1.2 hr (by omega) q hq hq0)

theorem Inv.nextC_lt (I : Inv T) (j c : Nat) (hc : c ∈ nextC T j) : j < c := by
  unfold nextC at hc
  cases hs : T.scopes[j]? with
  | none => rw [hs] at hc; simp at hc
  | some s =>
    rw [hs] at hc
    rcases List.mem_append.1 hc with hc | hc
    · obtain ⟨m, hm, hc⟩ := List.mem_flatMap.1 hc
      obtain ⟨x, t, hx, hi, ht, _, hmem, _⟩ := I.kidC_mem hs hm hc
      obtain ⟨_, _, _, _, h⟩ := I.opn _ c x hx hmem
      omega
    · obtain ⟨_, _, _, _, _, _, _, h, _⟩ := I.lateC_mem hs hc
      exact h

theorem Inv.nextC_one (I : Inv T) (j j' c : Nat) (hc : c ∈ nextC T j) (hc' : c ∈ nextC T j') : j = j' := by
  unfold nextC at hc hc'
  cases hs : T.scopes[j]? with
  | none => rw [hs] at hc; simp at hc
  | some s =>
    cases hs' : T.scopes[j']? with
    | none => rw [hs'] at hc'; simp at hc'
    | some s' =>
      rw [hs] at hc
      rw [hs'] at hc'
      -- a first scope is none that comes behind another
      have clash : ∀ (j j' : Nat) (s s' : ScopeA) (m : Nat), T.scopes[j]? = some s → T.scopes[j']? = some s' → m ∈ s.kids → c ∈ kidC T m → c ∈ lateC T j' s' → False := fun j j' s s' m hs hs' hm h1 h2 => by
        obtain ⟨x, t, hx, _, ht, hto, _, hmin⟩ := I.kidC_mem hs hm h1
        obtain ⟨y, t', hy, ht', hto', _, hj, hlt, _⟩ := I.lateC_mem hs' h2
        cases look_same ht ht'
        rw [← hto', hto] at hy
        cases look_same hx hy
        have := hmin (j' + 1) hj (by omega)
        omega
      rcases List.mem_append.1 hc with hc | hc <;> rcases List.mem_append.1 hc' with hc' | hc'
      · obtain ⟨m, hm, hc⟩ := List.mem_flatMap.1 hc
        obtain ⟨m', hm', hc'⟩ := List.mem_flatMap.1 hc'
        obtain ⟨x, t, hx, hi, ht, hto, _, _⟩ := I.kidC_mem hs hm hc
        obtain ⟨x', t', hx', hi', ht', hto', _, _⟩ := I.kidC_mem hs' hm' hc'
        cases look_same ht ht'
        have : m = m' := hto.symm.trans hto'
        subst this
        cases look_same hx hx'
        omega
      · obtain ⟨m, hm, hc⟩ := List.mem_flatMap.1 hc
        exact (clash j j' s s' m hs hs' hm hc hc').elim
      · obtain ⟨m, hm, hc'⟩ := List.mem_flatMap.1 hc'
        exact (clash j' j s' s m hs' hs hm hc' hc).elim
      · obtain ⟨y, t, hy, ht, hto, h1, h2, h3, h4⟩ := I.lateC_mem hs hc
        obtain ⟨y', t', hy', ht', hto', h1', h2', h3', h4'⟩ := I.lateC_mem hs' hc'
        cases look_same ht ht'
        rw [← hto, hto'] at hy
        cases look_same hy hy'
        have a := h4 (j' + 1) h2' (by omega)
        have b := h4' (j + 1) h2 (by omega)
        omega

theorem Inv.nextC_nodup (I : Inv T) (j : Nat) : (nextC T j).Nodup := by
  unfold nextC
  cases hs : T.scopes[j]? with
  | none => simp
  | some s =>
    simp only
    rw [List.nodup_append]
    refine ⟨?_, ?_, fun a ha b hb e => ?_⟩
    · rw [List.nodup_iff_pairwise_ne, List.pairwise_flatMap]
      refine ⟨fun m _ => ?_, ?_⟩
      · unfold kidC
        split
        · simp
        · split
          · simp
          · split <;> simp
      · refine (List.nodup_iff_pairwise_ne.1 (I.kid j s hs).1).imp_of_mem fun {m m'} hm hm' hne a ha b hb e => ?_
        subst e
        obtain ⟨_, t, _, _, ht, hto, _, _⟩ := I.kidC_mem hs hm ha
        obtain ⟨_, t', _, _, ht', hto', _, _⟩ := I.kidC_mem hs hm' hb
        cases look_same ht ht'
        exact hne (hto.symm.trans hto')
    · unfold lateC
      split
      · simp
      · split
        · simp
        · split <;> simp
    · subst e
      obtain ⟨m, hm, hc⟩ := List.mem_flatMap.1 ha
      obtain ⟨_, t, _, _, ht, hto, _, _⟩ := I.kidC_mem hs hm hc
      obtain ⟨_, t', _, ht', hto', _, _, _, _⟩ := I.lateC_mem hs hb
      cases look_same ht ht'
      have := ((I.kid j s hs).2 m hm).1
      omega

theorem vis_scopes : ∀ (f j e : Nat), e ∈ vis (nextC T) f j → e = j ∨ e < T.scopes.length ∨ True := fun _ _ _ _ => .inr (.inr trivial)

theorem Inv.nextC_len (I : Inv T) (j c : Nat) (hc : c ∈ nextC T j) : c < T.scopes.length := by
  unfold nextC at hc
  cases hs : T.scopes[j]? with
  | none => rw [hs] at hc; simp at hc
  | some s =>
    rw [hs] at hc
    rcases List.mem_append.1 hc with hc | hc
    · obtain ⟨m, hm, hc⟩ := List.mem_flatMap.1 hc
      obtain ⟨_, t, _, _, ht, _⟩ := I.kidC_mem hs hm hc
      exact (List.getElem?_eq_some_iff.1 ht).1
    · obtain ⟨_, t, _, ht, _⟩ := I.lateC_mem hs hc
      exact (List.getElem?_eq_some_iff.1 ht).1

theorem Inv.vis_len (I : Inv T) (f j : Nat) : (vis (nextC T) f j).length ≤ 201 := by
  have hn := vis_nodup I.nextC_lt I.nextC_nodup I.nextC_one f j
  cases f with
  | zero => simp [vis]
  | succ f =>
    unfold vis at hn ⊢
    rw [List.nodup_cons] at hn
    rw [List.length_cons]
    have := nodup_bound 200 _ hn.2 (fun e he => by
      obtain ⟨c, hc, he⟩ := List.mem_flatMap.1 he
      have hr := vis_reach f c e he
      have hlen : e < T.scopes.length := by
        rcases hr.cases_last with rfl | ⟨p, _, hp⟩
        · exact I.nextC_len j c hc
        · exact I.nextC_len p e hp
      have := I.ns
      omega)
    omega

theorem sum_flatMap {α : Type} (f : Nat → List α) (g : Nat → List Nat) (K : Nat) : ∀ (l : List Nat), (∀ c ∈ l, (f c).length ≤ K * (g c).length) → (l.flatMap f).length ≤ K * (l.flatMap g).length
  | [], _ => by simp
  | a :: l, h => by
    rw [List.flatMap_cons, List.flatMap_cons, List.length_append, List.length_append, Nat.mul_add]
    have h1 := h a (by simp)
    have h2 := sum_flatMap f g K l (fun c hc => h c (by simp [hc]))
    omega

theorem Inv.belowN_vis (I : Inv T) : ∀ (f j : Nat), (belowN T f j).length ≤ 65 * (vis (nextC T) f j).length
  | 0, j => by simp [belowN]
  | f + 1, j => by
    unfold belowN vis
    cases hs : T.scopes[j]? with
    | none => simp
    | some s =>
      have hn : nextC T j = s.kids.flatMap (kidC T) ++ lateC T j s := by unfold nextC; rw [hs]
      rw [hn]
      simp only
      rw [List.length_append, List.length_cons, List.flatMap_append, List.length_append]
      have h1 : (s.kids.flatMap (kidB T (belowN T f))).length ≤ s.kids.length + 65 * ((s.kids.flatMap (kidC T)).flatMap (vis (nextC T) f)).length := by
        generalize s.kids = ks
        induction ks with
        | nil => simp
        | cons m ks ih =>
          rw [List.flatMap_cons, List.flatMap_cons, List.flatMap_append, List.length_append, List.length_append, List.length_cons]
          have hm : (kidB T (belowN T f) m).length ≤ 1 + 65 * ((kidC T m).flatMap (vis (nextC T) f)).length := by
            unfold kidB kidC
            cases hx : T.tasks[m - 1]? with
            | none => simp
            | some x =>
              simp only
              split
              · simp
              · split
                · simp
                · have := I.belowN_vis f (outerN x.opn - 1)
                  simp
                  omega
          omega
      have h2 : (lateB T (belowN T f) j s).length ≤ 65 * ((lateC T j s).flatMap (vis (nextC T) f)).length := by
        unfold lateB lateC
        cases hy : T.tasks[s.owner - 1]? with
        | none => simp
        | some y =>
          simp only
          cases hp : placeOf (j + 1) y.opn with
          | none => simp
          | some k =>
            simp only
            split
            · simp
            · have := I.belowN_vis f (outerN (y.opn.drop (k + 1)) - 1)
              simp
              omega
      have h3 := I.kidsLen hs
      omega

theorem Inv.fit (I : Inv T) : FitT T where
  up := I.up
  down := I.down
  opn i x hx := ⟨Nat.le_trans (I.opnLen hx) (by omega), I.opnLe hx⟩
  kids j s hs := Nat.le_trans (I.kidsLen hs) (by omega)
  inn i x hx := I.innLe hx
  chain n := by
    unfold TreeA.chain
    cases h : T.run? n with
    | none => exact ⟨by simp, fun p hp => by simp at hp⟩
    | some i =>
      obtain ⟨_, x, hx, _⟩ := TreeA.run?_some h
      simp only [TreeA.chainAt, hx]
      obtain ⟨h1, h2⟩ := I.chainN (i + 1) i x.opn.length
      have := (List.getElem?_eq_some_iff.1 hx).1
      have := I.nt
      refine ⟨?_, fun p hp => ?_⟩
      · have : (i + 1) * 302 ≤ 65 * 302 := Nat.mul_le_mul_right _ (by omega)
        omega
      · have := h2 p hp
        omega
  below j := by
    have h1 := I.belowN_vis (T.scopes.length + 1) j
    have h2 := I.vis_len (T.scopes.length + 1) j
    have : 65 * (vis (nextC T) (T.scopes.length + 1) j).length ≤ 65 * 201 := Nat.mul_le_mul_left _ h2
    omega
  tasks := I.nt
  scopes := I.ns

end
end Go.Proofs.Ytoonkidlbnndcaa

namespace Go.Proofs.Ytoonkidlbnndcaa
set_option linter.unusedVariables false
set_option linter.unusedSimpArgs false
open Go.RowKit

section
variable {κ : Kap} {L : Lay} {T : TreeA} {w w' : World}

theorem fail_new (R : Rep κ L T w) {n : Int} {i : Nat} {s : ScopeA} (f : Flt) (h : T.scope? n = some i) (hs : T.scopes[i]? = some s) (ho : s.over = false) (hf : f.kind = 1) (hok : okFlt f = true) (hb : s.flt.kind = 0) :
    Calls Try.prog 66 #[.pointer (some ⟨L.t, 0, none⟩), .int .i64 n, fltV f] w fun e w' => ∃ v, e = .returned (.tuple #[v, .int .i64 0]) ∧
      Rep κ L (T.blamed i s f) w' ∧ Ext κ κ w w' ∧ EOwn κ w' v [scopeEff i] ∧ Fresh w v := by
  have C : Hid (∀ o, _) := fun o => scope_some (R.alloc o) h
  have V := Lib.hid (fault_any f)
  have hn : n = (i : Int) + 1 := (TreeA.scope?_some h).1
  have B : Hid (∀ (W : World), Below w.heap.size w W → Calls Try.prog 85 #[.pointer (some ⟨L.sb i, 0, none⟩), fltV f] W fun e w' => e = .returned (.bool true) ∧ Rep κ L (T.blamed i s f) w' ∧ Ext κ κ w w') := fun W hW =>
    (blame_yes (R.below hW) hs hf hb).mono fun e w' ⟨h1, h2, h3⟩ => ⟨h1, h2, (Ext.of_below hW).trans h3⟩
  obtain ⟨_, _, _, d3, _⟩ := R.scells hs
  have hlt := (R.scope i s hs).lt
  rw [ho] at d3
  rw [hok] at V
  obtain ⟨k, t⟩ := f
  unfold fltV at V B ⊢
  simp only [] at hf
  subst hf
  generalize hT : T.blamed i s ⟨1, t⟩ = T' at *
  subst hn
  clear R h hs ho hok hb hT
  go_enter Try.func66, Try.ntmps66
  go_wp2_with (first | (go_at_call 70; refine (C.out _).mono ?_; rintro e w' ⟨rfl, rfl⟩) | (go_at_call 84; refine (V.out _).mono ?_; rintro e w' ⟨rfl, hb⟩; obtain ⟨hc, hfz⟩ := bcell hb; have hb1 := ((Below.refl _ _).alloc (Nat.le_refl _) _).trans (hb.mono (by simp))) | (go_at_call 85; refine (B.out _ hb1).mono ?_; rintro e w2 ⟨rfl, R2, E2⟩))
  go_ret2
  exact ⟨_, rfl, R2.alloc _, E2.alloc _, eown_one (R2.new_none (Nat.le_refl _)) (scopeEff i), fun b hb => by
    have : w2.heap.size = b := by simpa [Value.ownBlock] using hb
    have := E2.size
    omega⟩


end
end Go.Proofs.Ytoonkidlbnndcaa

namespace Go.Proofs.Ytoonkidlbnndcaa
set_option linter.unusedVariables false
set_option linter.unusedSimpArgs false
open Go.RowKit

def TreeA.openR (T : TreeA) (n : Int) (sup : Bool) : TreeA × Int × Int := match T.run? n with
  | none => (T, 0, 6)
  | some i => match T.tasks[i]? with
    | none => (T, 0, 6)
    | some x => if x.leaving then (T, 0, 22) else if 200 ≤ T.scopes.length then (T, 0, 5) else (T.opened i x sup, (T.scopes.length : Int) + 1, 0)
def TreeA.shieldR (T : TreeA) (n : Int) : TreeA × Int := match T.run? n with
  | none => (T, 6)
  | some i => match T.tasks[i]? with
    | none => (T, 6)
    | some x => if x.leaving then (T, 22) else if 40 ≤ x.opn.count 0 then (T, 5) else (T.setOpn i x (x.opn ++ [0]), 0)
def TreeA.unveilR (T : TreeA) (n : Int) : TreeA × Int := match T.run? n with
  | none => (T, 6)
  | some i => match T.tasks[i]? with
    | none => (T, 6)
    | some x => if x.leaving then (T, 22) else if x.opn.getLast? = some 0 then (T.setOpn i x x.opn.dropLast, 0) else (T, 22)
def TreeA.spawnR (T : TreeA) (n : Int) : TreeA × Int × Int := match T.run? n with
  | none => (T, 0, 6)
  | some i => match T.tasks[i]? with
    | none => (T, 0, 6)
    | some x => if x.leaving then (T, 0, 22) else if innerN x.opn = 0 then (T, 0, 22) else if 64 ≤ T.tasks.length then (T, 0, 5) else (T.spawnAt (innerN x.opn - 1), (T.tasks.length : Int) + 1, 0)
def TreeA.rootR (T : TreeA) : TreeA × Int × Int := if 64 ≤ T.tasks.length then (T, 0, 5) else ({ T with tasks := T.tasks ++ [.new 0] }, (T.tasks.length : Int) + 1, 0)
def TreeA.failR (T : TreeA) (n : Int) (f : Flt) : TreeA × List EffA × Int := match T.scope? n with
  | none => (T, [], 6)
  | some i => match T.scopes[i]? with
    | none => (T, [], 6)
    | some s => if s.over then (T, [], 6) else if f.kind ≠ 1 ∨ okFlt f = false then (T, [], 2) else if s.flt.kind = 0 then (T.blamed i s f, [scopeEff i], 0) else (T, [], 0)
def TreeA.leaveR (T : TreeA) (n : Int) (f : Flt) : TreeA × List EffA × Int := match T.run? n with
  | none => (T, [], 6)
  | some i => match T.tasks[i]? with
    | none => (T, [], 6)
    | some x => if okFlt f = false then (T, [], 2) else if x.leaving then (T, [], 22) else match x.opn.getLast? with
      | none => (T, [], 22)
      | some 0 => (T, [], 22)
      | some (j + 1) => match T.scopes[j]? with
        | none => (T, [], 22)
        | some s => if 0 < s.live then (T.leaves i j x f, if f.kind = 0 then [] else [scopeEff j], 0)
          else ((T.leaves i j x f).finished j i (blameS s f) { x with leaving := true, flt := f }, [leftEff j i { x with leaving := true, flt := f } (blameS s f)], 0)
def TreeA.endR (T : TreeA) (n : Int) (f : Flt) : TreeA × List EffA × Int := match T.run? n with
  | none => (T, [], 6)
  | some i => match T.tasks[i]? with
    | none => (T, [], 6)
    | some x => if okFlt f = false then (T, [], 2) else if x.opn ≠ [] then (T, [], 22) else match x.inn with
      | 0 => (T.ended i x f, [], 0)
      | j + 1 => match T.scopes[j]? with
        | none => (T, [], 22)
        | some s => match T.tasks[s.owner - 1]? with
          | none => (T, [], 22)
          | some y =>
            if s.sup then (TreeA.fin (T.lost i j x s f) j (s.owner - 1) { s with live := s.live - 1 } y, finEffs j (s.owner - 1) y { s with live := s.live - 1 }, 0)
            else (TreeA.fin ((T.lost i j x s f).blame j f) j (s.owner - 1) (blameS { s with live := s.live - 1 } f) y,
              (if f.kind = 1 ∧ s.flt.kind = 0 then [scopeEff j] else []) ++ finEffs j (s.owner - 1) y (blameS { s with live := s.live - 1 } f), 0)

section
variable {κ : Kap} {L : Lay} {T : TreeA} {w w' : World}

def TDone (κ : Kap) (L : Lay) (w : World) (T' : TreeA) (w' : World) : Prop := ∃ κ' L', L'.t = L.t ∧ Rep κ' L' T' w' ∧ Ext κ κ' w w'
theorem TDone.same (R : Rep κ L T w) : TDone κ L w T w := ⟨κ, L, rfl, R, Ext.refl _ _⟩
theorem TDone.below (R : Rep κ L T w) (h : Below w.heap.size w w') : TDone κ L w T w' := ⟨κ, L, rfl, R.below h, Ext.of_below h⟩

theorem TreeA.run?_of {i : Nat} {n : Int} (h : T.run? n = some i) : ∃ x, T.tasks[i]? = some x ∧ x.ended = false := (TreeA.run?_some h).2

theorem Inv.ownLe (I : Inv T) (i : Nat) (s : ScopeA) (hs : T.scopes[i]? = some s) : s.owner ≤ T.tasks.length := by
  obtain ⟨o, y, h1, h2, _⟩ := I.own i s hs
  have := (List.getElem?_eq_some_iff.1 h2).1
  omega
theorem Inv.kidLe (I : Inv T) (i : Nat) (s : ScopeA) (hs : T.scopes[i]? = some s) : ∀ n ∈ s.kids, n ≤ T.tasks.length := fun n hn => by
  obtain ⟨_, y, h2, _⟩ := (I.kid i s hs).2 n hn
  have := (List.getElem?_eq_some_iff.1 h2).1
  omega
theorem Inv.liveLe (I : Inv T) (i : Nat) (s : ScopeA) (hs : T.scopes[i]? = some s) : 0 ≤ s.live ∧ s.live ≤ 65 := by
  rw [I.live i s hs]
  have h1 := List.length_filter_le T.runsB s.kids
  have h2 := I.kidsLen hs
  omega

theorem topen (R : Rep κ L T w) (I : Inv T) (n : Int) (b : Bool) : Calls Try.prog 60 #[.pointer (some ⟨L.t, 0, none⟩), .int .i64 n, .bool b] w fun e w' =>
    e = .returned (.tuple #[.int .i64 (T.openR n b).2.1, .int .i64 (T.openR n b).2.2]) ∧ TDone κ L w (T.openR n b).1 w' := by
  unfold TreeA.openR
  cases h : T.run? n with
  | none => exact (open_none R b h).mono fun e w' ⟨he, hw⟩ => ⟨he, hw ▸ TDone.same R⟩
  | some i =>
    obtain ⟨x, hx, hr⟩ := TreeA.run?_of h
    simp only [hx]
    cases hl : x.leaving with
    | true => exact (open_leaving R b h hx hl).mono fun e w' ⟨he, hw⟩ => ⟨he, hw ▸ TDone.same R⟩
    | false =>
      simp only [Bool.false_eq_true, if_false]
      by_cases hf : 200 ≤ T.scopes.length
      · rw [if_pos hf]
        exact (open_full R b h hx hl hf).mono fun e w' ⟨he, hw⟩ => ⟨he, hw ▸ TDone.same R⟩
      · rw [if_neg hf]
        exact open_ok R b h hx hl (by omega) (fun i x hx => I.innLe hx) (fun i x hx => I.opnLe hx) (Nat.le_trans (I.opnLen hx) (by omega))

theorem tshield (R : Rep κ L T w) (I : Inv T) (n : Int) : Calls Try.prog 48 #[.pointer (some ⟨L.t, 0, none⟩), .int .i64 n] w fun e w' =>
    e = .returned (.int .i64 (T.shieldR n).2) ∧ TDone κ L w (T.shieldR n).1 w' := by
  unfold TreeA.shieldR
  cases h : T.run? n with
  | none => exact (shield_none R h).mono fun e w' ⟨he, hw⟩ => ⟨he, hw ▸ TDone.same R⟩
  | some i =>
    obtain ⟨x, hx, hr⟩ := TreeA.run?_of h
    simp only [hx]
    cases hl : x.leaving with
    | true => exact (shield_leaving R h hx hl).mono fun e w' ⟨he, hw⟩ => ⟨he, hw ▸ TDone.same R⟩
    | false =>
      simp only [Bool.false_eq_true, if_false]
      refine (shield_any R h hx hl (Nat.le_trans (I.opnLen hx) (by omega))).mono fun e w' hp => ?_
      rcases hp with ⟨hc, he, hw⟩ | ⟨hc, he, hd⟩
      · rw [if_pos hc]
        exact ⟨he, hw ▸ TDone.same R⟩
      · rw [if_neg (by omega)]
        exact ⟨he, hd⟩

theorem tunveil (R : Rep κ L T w) (_ : Inv T) (n : Int) : Calls Try.prog 49 #[.pointer (some ⟨L.t, 0, none⟩), .int .i64 n] w fun e w' =>
    e = .returned (.int .i64 (T.unveilR n).2) ∧ TDone κ L w (T.unveilR n).1 w' := by
  unfold TreeA.unveilR
  cases h : T.run? n with
  | none => exact (unveil_none R h).mono fun e w' ⟨he, hw⟩ => ⟨he, hw ▸ TDone.same R⟩
  | some i =>
    obtain ⟨x, hx, hr⟩ := TreeA.run?_of h
    simp only [hx]
    cases hl : x.leaving with
    | true => exact (unveil_leaving R h hx hl).mono fun e w' ⟨he, hw⟩ => ⟨he, hw ▸ TDone.same R⟩
    | false =>
      simp only [Bool.false_eq_true, if_false]
      rcases List.eq_nil_or_concat x.opn with ho | ⟨l, s, ho⟩
      · rw [if_neg (by rw [ho]; simp)]
        exact (unveil_empty R h hx hl ho).mono fun e w' ⟨he, hw⟩ => ⟨he, hw ▸ TDone.same R⟩
      · rw [List.concat_eq_append] at ho
        by_cases hs : s = 0
        · subst hs
          rw [if_pos (by rw [ho]; simp), ho, List.dropLast_concat]
          exact unveil_ok R h hx hl ho
        · rw [if_neg (by rw [ho]; simpa using hs)]
          refine (unveil_scope R h hx hl ho hs).mono fun e w' ⟨he, k, hw⟩ => ⟨he, ?_⟩
          subst hw
          exact ⟨κ, L, rfl, R.drewN k, (Ext.refl κ w).drewN k⟩

theorem tspawn (R : Rep κ L T w) (I : Inv T) (n : Int) : Calls Try.prog 62 #[.pointer (some ⟨L.t, 0, none⟩), .int .i64 n] w fun e w' =>
    e = .returned (.tuple #[.int .i64 (T.spawnR n).2.1, .int .i64 (T.spawnR n).2.2]) ∧ TDone κ L w (T.spawnR n).1 w' := by
  unfold TreeA.spawnR
  cases h : T.run? n with
  | none => exact (spawn_none R h).mono fun e w' ⟨he, hw⟩ => ⟨he, TDone.below R hw⟩
  | some i =>
    obtain ⟨x, hx, hr⟩ := TreeA.run?_of h
    simp only [hx]
    cases hl : x.leaving with
    | true => exact (spawn_leaving R h hx hl).mono fun e w' ⟨he, hw⟩ => ⟨he, TDone.below R hw⟩
    | false =>
      simp only [Bool.false_eq_true, if_false]
      refine (spawn_any R h hx hl (Nat.le_trans (I.opnLen hx) (by omega)) (I.opnLe hx) I.ownLe (fun i s hs => ⟨I.kidLe i s hs, Nat.le_trans (I.kidsLen hs) (by omega), (I.liveLe i s hs).1, by have := (I.liveLe i s hs).2; omega⟩)).mono fun e w' hp => ?_
      rcases hp with ⟨h0, he, hw⟩ | ⟨h0, he, hd⟩
      · rw [if_pos h0]
        exact ⟨he, TDone.below R hw⟩
      · rw [if_neg h0]
        by_cases h64 : 64 ≤ T.tasks.length
        · rw [if_pos h64]
          rw [if_pos h64, if_pos h64] at he
          have e1 : T.spawnAt (innerN x.opn - 1) = T := by unfold TreeA.spawnAt; rw [if_pos h64]
          rw [e1] at hd
          exact ⟨he, hd⟩
        · rw [if_neg h64]
          rw [if_neg h64, if_neg h64] at he
          exact ⟨he, hd⟩

theorem troot (R : Rep κ L T w) (I : Inv T) : Calls Try.prog 67 #[.pointer (some ⟨L.t, 0, none⟩)] w fun e w' =>
    e = .returned (.tuple #[.int .i64 T.rootR.2.1, .int .i64 T.rootR.2.2]) ∧ TDone κ L w T.rootR.1 w' := by
  unfold TreeA.rootR
  by_cases h : 64 ≤ T.tasks.length
  · rw [if_pos h]
    exact (root_full R h).mono fun e w' ⟨he, hw⟩ => ⟨he, hw ▸ TDone.same R⟩
  · rw [if_neg h]
    exact root_ok R I.ownLe I.kidLe (by omega)

/-- What a method of the tree with effects leaves. -/
def TEff (κ : Kap) (L : Lay) (w : World) (r : TreeA × List EffA × Int) (e : Ending) (w' : World) : Prop :=
  ∃ v, e = .returned (.tuple #[v, .int .i64 r.2.2]) ∧ ∃ κ' L', L'.t = L.t ∧ Rep κ' L' r.1 w' ∧ Ext κ κ' w w' ∧ EOwn κ' w' v r.2.1 ∧ Fresh w v

theorem TEff.none (R : Rep κ L T w) {e : Ending} {er : Int} (he : e = .returned (.tuple #[.slice none 0 0, .int .i64 er])) (h : Below w.heap.size w w') : TEff κ L w (T, [], er) e w' :=
  ⟨_, he, κ, L, rfl, R.below h, Ext.of_below h, eown_nil _ _, fun b hb => by cases hb⟩

theorem tfail (R : Rep κ L T w) (n : Int) (f : Flt) : Calls Try.prog 66 #[.pointer (some ⟨L.t, 0, none⟩), .int .i64 n, fltV f] w (TEff κ L w (T.failR n f)) := by
  unfold TreeA.failR
  cases h : T.scope? n with
  | none => exact (fail_none R f h).mono fun e w' ⟨he, hw⟩ => TEff.none R he hw
  | some i =>
    obtain ⟨_, s, hs⟩ := TreeA.scope?_some h
    simp only [hs]
    cases ho : s.over with
    | true => exact (fail_over R f h hs ho).mono fun e w' ⟨he, hw⟩ => TEff.none R he hw
    | false =>
      simp only [Bool.false_eq_true, if_false]
      by_cases hf : f.kind ≠ 1 ∨ okFlt f = false
      · rw [if_pos hf]
        exact (fail_arg R f h hs ho hf).mono fun e w' ⟨he, hw⟩ => TEff.none R he hw
      · rw [if_neg hf]
        have hf1 : f.kind = 1 := by
          by_cases h : f.kind = 1
          · exact h
          · exact absurd (.inl h) hf
        have hf2 : okFlt f = true := by
          cases h : okFlt f with
          | true => rfl
          | false => exact absurd (.inr h) hf
        by_cases hb : s.flt.kind = 0
        · rw [if_pos hb]
          exact (fail_new R f h hs ho hf1 hf2 hb).mono fun e w' ⟨v, he, h1, h2, h3, h4⟩ => ⟨v, he, κ, L, rfl, h1, h2, h3, h4⟩
        · rw [if_neg hb]
          exact (fail_had R f h hs ho hf1 hf2 hb).mono fun e w' ⟨he, hw⟩ => TEff.none R he hw

theorem tleave (R : Rep κ L T w) (I : Inv T) (n : Int) (f : Flt) : Calls Try.prog 65 #[.pointer (some ⟨L.t, 0, none⟩), .int .i64 n, fltV f] w (TEff κ L w (T.leaveR n f)) := by
  unfold TreeA.leaveR
  cases h : T.run? n with
  | none => exact (leave_none R f h).mono fun e w' ⟨he, hw⟩ => TEff.none R he hw
  | some i =>
    obtain ⟨x, hx, hr⟩ := TreeA.run?_of h
    simp only [hx]
    cases hok : okFlt f with
    | false => exact (leave_arg R f h hok).mono fun e w' ⟨he, hw⟩ => TEff.none R he hw
    | true =>
      simp only [Bool.true_eq_false, if_false]
      cases hl : x.leaving with
      | true => exact (leave_bad R f h hx hok (.inl hl)).mono fun e w' ⟨he, hw⟩ => TEff.none R he hw
      | false =>
        simp only [Bool.false_eq_true, if_false]
        rcases List.eq_nil_or_concat x.opn with ho | ⟨l, s, ho⟩
        · have e0 : x.opn.getLast? = none := by rw [ho]; rfl
          rw [e0]
          exact (leave_bad R f h hx hok (.inr (.inl ho))).mono fun e w' ⟨he, hw⟩ => TEff.none R he hw
        · rw [List.concat_eq_append] at ho
          have e0 : x.opn.getLast? = some s := by rw [ho]; simp
          rw [e0]
          cases s with
          | zero => exact (leave_bad R f h hx hok (.inr (.inr e0))).mono fun e w' ⟨he, hw⟩ => TEff.none R he hw
          | succ j =>
            obtain ⟨s, hs, how, _⟩ := I.opn i j x hx (by rw [ho]; simp)
            simp only [hs]
            have hle := I.opnLe hx
            by_cases hlive : 0 < s.live
            · rw [if_pos hlive]
              by_cases hf : f.kind = 0
              · rw [if_pos hf]
                exact leave_run0 R f h hx hok hl ho hs how hle hlive hf
              · rw [if_neg hf]
                exact leave_run1 R f h hx hok hl ho hs how hle hlive hf
            · rw [if_neg hlive]
              by_cases hf : f.kind = 0
              · exact leave_done0 R f h hx hok hl ho hs how hle (by omega) hf
              · exact leave_done1 R f h hx hok hl ho hs how hle (by omega) hf

theorem tend (R : Rep κ L T w) (I : Inv T) (n : Int) (f : Flt) : Calls Try.prog 64 #[.pointer (some ⟨L.t, 0, none⟩), .int .i64 n, fltV f] w (TEff κ L w (T.endR n f)) := by
  unfold TreeA.endR
  cases h : T.run? n with
  | none => exact (end_none R f h).mono fun e w' ⟨he, hw⟩ => TEff.none R he hw
  | some i =>
    obtain ⟨x, hx, hr⟩ := TreeA.run?_of h
    simp only [hx]
    cases hok : okFlt f with
    | false => exact (end_arg R f h hok).mono fun e w' ⟨he, hw⟩ => TEff.none R he hw
    | true =>
      simp only [Bool.true_eq_false, if_false]
      by_cases ho : x.opn = []
      · rw [if_neg (by simpa using ho)]
        cases hi : x.inn with
        | zero => exact end_root R f h hx hok ho hi
        | succ j =>
          obtain ⟨s, hs, hm⟩ := I.inn i j x hx hi
          obtain ⟨o, y, hso, hy, _⟩ := I.own j s hs
          have hy' : T.tasks[s.owner - 1]? = some y := by rw [hso]; exact hy
          have hso' : s.owner - 1 = o := by omega
          simp only [hs, hso', hy]
          have hlt := ((I.kid j s hs).2 _ hm).1
          have hoi : o ≠ i := by omega
          have hl1 : 1 ≤ s.live := by
            rw [I.live j s hs]
            have h3 : (i + 1) ∈ s.kids.filter T.runsB := List.mem_filter.2 ⟨hm, by unfold TreeA.runsB; simp [hx, hr]⟩
            have := List.length_pos_of_mem h3
            omega
          have hl2 : s.live ≤ 1000 := by have := (I.liveLe j s hs).2; omega
          have hle := I.opnLe hy
          by_cases hsup : s.sup = true
          · rw [if_pos hsup]
            exact end_sup R f h hx hok ho hi hs hso hoi hy hle hl1 hl2 hsup
          · rw [if_neg hsup]
            have hsup : s.sup = false := by simpa using hsup
            by_cases hb : f.kind = 1 ∧ s.flt.kind = 0
            · rw [if_pos hb]
              exact end_yes R f h hx hok ho hi hs hso hoi hy hle hl1 hl2 hsup hb
            · rw [if_neg hb]
              exact end_no R f h hx hok ho hi hs hso hoi hy hle hl1 hl2 hsup hb
      · rw [if_pos (by simpa using ho)]
        exact (end_place R f h hx hok ho).mono fun e w' ⟨he, hw⟩ => TEff.none R he hw

end
end Go.Proofs.Ytoonkidlbnndcaa

namespace Go.Proofs.Ytoonkidlbnndcaa
set_option linter.unusedVariables false
set_option linter.unusedSimpArgs false

section
variable {T : TreeA}

theorem inv_roots {n : Nat} (h : n ≤ 64) : Inv (roots n) where
  nt := by simpa [roots] using h
  ns := by simp [roots]
  inn i j x hx hi := by
    simp only [roots, List.getElem?_replicate] at hx
    split at hx
    · cases hx; cases hi
    · cases hx
  opn i j x hx hj := by
    simp only [roots, List.getElem?_replicate] at hx
    split at hx
    · cases hx; simp [TaskA.new] at hj
    · cases hx
  inc i x hx := by
    simp only [roots, List.getElem?_replicate] at hx
    split at hx
    · cases hx; simp [TaskA.new]
    · cases hx
  zer i x hx := by
    simp only [roots, List.getElem?_replicate] at hx
    split at hx
    · cases hx; simp [TaskA.new]
    · cases hx
  fin i x hx he := by
    simp only [roots, List.getElem?_replicate] at hx
    split at hx
    · cases hx; simp [TaskA.new]
    · cases hx
  own j s hs := by simp [roots] at hs
  kid j s hs := by simp [roots] at hs
  live j s hs := by simp [roots] at hs
  over j s hs := by simp [roots] at hs

theorem Inv.openR (I : Inv T) (n : Int) (b : Bool) : Inv (T.openR n b).1 := by
  unfold TreeA.openR
  cases h : T.run? n with
  | none => exact I
  | some i =>
    obtain ⟨x, hx, hr⟩ := TreeA.run?_of h
    simp only [hx]
    split
    · exact I
    · split
      · exact I
      · exact I.opened hx (by omega) hr b

theorem filter_zero (l : List Nat) : (l ++ [0]).filter (· != 0) = l.filter (· != 0) := by simp

theorem Inv.shieldR (I : Inv T) (n : Int) : Inv (T.shieldR n).1 := by
  unfold TreeA.shieldR
  cases h : T.run? n with
  | none => exact I
  | some i =>
    obtain ⟨x, hx, hr⟩ := TreeA.run?_of h
    simp only [hx]
    split
    · exact I
    · split
      · exact I
      · refine I.setTask (x' := { x with opn := x.opn ++ [0] }) hx rfl rfl (fun j hj => List.mem_append_left _ hj) (fun j hj => ?_) ?_ ?_ (fun he => ?_)
        · simpa using hj
        · simp only [filter_zero]; exact I.inc i x hx
        · simp; omega
        · simp only at he; rw [hr] at he; cases he

theorem Inv.unveilR (I : Inv T) (n : Int) : Inv (T.unveilR n).1 := by
  unfold TreeA.unveilR
  cases h : T.run? n with
  | none => exact I
  | some i =>
    obtain ⟨x, hx, hr⟩ := TreeA.run?_of h
    simp only [hx]
    split
    · exact I
    · split
      · rename_i h0
        rcases List.eq_nil_or_concat x.opn with ho | ⟨l, s, ho⟩
        · rw [ho] at h0; simp at h0
        · rw [List.concat_eq_append] at ho
          have hs : s = 0 := by rw [ho] at h0; simpa using h0
          subst hs
          refine I.setTask (x' := { x with opn := x.opn.dropLast }) hx rfl rfl (fun j hj => ?_) (fun j hj => ?_) ?_ ?_ (fun he => ?_)
          · simp only [ho, List.dropLast_concat]
            rw [ho] at hj
            simpa using hj
          · simp only [ho, List.dropLast_concat] at hj
            rw [ho]
            exact List.mem_append_left _ hj
          · have := I.inc i x hx
            rw [ho, filter_zero] at this
            simp only [ho, List.dropLast_concat]
            exact this
          · have := I.zer i x hx
            rw [ho, List.count_append] at this
            simp only [ho, List.dropLast_concat]
            omega
          · simp only at he; rw [hr] at he; cases he
      · exact I

theorem innerN_mem {l : List Nat} (h : innerN l ≠ 0) : innerN l ∈ l := by
  unfold innerN at h ⊢
  cases hf : l.reverse.find? (· != 0) with
  | none => rw [hf] at h; exact absurd rfl h
  | some q => exact List.mem_reverse.1 (List.mem_of_find?_eq_some hf)

theorem Inv.spawnR (I : Inv T) (n : Int) : Inv (T.spawnR n).1 := by
  unfold TreeA.spawnR
  cases h : T.run? n with
  | none => exact I
  | some i =>
    obtain ⟨x, hx, hr⟩ := TreeA.run?_of h
    simp only [hx]
    split
    · exact I
    · split
      · exact I
      · rename_i h0
        split
        · exact I
        · exact I.spawn hx (j := innerN x.opn - 1) (by
            have := innerN_mem h0
            rwa [show innerN x.opn - 1 + 1 = innerN x.opn by omega])

theorem Inv.rootR (I : Inv T) : Inv T.rootR.1 := by
  unfold TreeA.rootR
  split
  · exact I
  · exact I.root (by omega)

theorem Inv.blame (I : Inv T) (j : Nat) (f : Flt) : Inv (T.blame j f) := by
  cases hs : T.scopes[j]? with
  | none =>
    have : T.blame j f = T := by
      unfold TreeA.blame
      have : T.scopes.modify j (fun s => if f.kind = 1 ∧ s.flt.kind = 0 then { s with flt := f } else s) = T.scopes := by
        apply List.ext_getElem?
        intro k
        rw [List.getElem?_modify]
        by_cases e : j = k
        · subst e; rw [hs]; rfl
        · simp [e]
      rw [this]
    rw [this]
    exact I
  | some s =>
    rw [TreeA.blame_eq hs]
    obtain ⟨h1, h2, h3, h4, _⟩ := blameS_live s f
    exact I.setScope hs h2 h4 h3 h1

theorem Inv.failR (I : Inv T) (n : Int) (f : Flt) : Inv (T.failR n f).1 := by
  unfold TreeA.failR
  cases h : T.scope? n with
  | none => exact I
  | some i =>
    obtain ⟨_, s, hs⟩ := TreeA.scope?_some h
    simp only [hs]
    split
    · exact I
    · split
      · exact I
      · split
        · exact I.setScope (s' := { s with flt := f }) hs rfl rfl rfl rfl
        · exact I

theorem Inv.leaves (I : Inv T) {i j : Nat} {x : TaskA} (f : Flt) (hx : T.tasks[i]? = some x) (hr : x.ended = false) : Inv (T.leaves i j x f) := by
  unfold TreeA.leaves
  have := (I.blame j f).setTask (i := i) (x := x) (x' := { x with leaving := true, flt := f }) hx rfl rfl (fun _ h => h) (fun _ h => h) (I.inc i x hx) (I.zer i x hx) (fun he => by simp only at he; rw [hr] at he; cases he)
  exact this

theorem Inv.finishedR (I : Inv T) {j o : Nat} {s : ScopeA} {x : TaskA} (hs : T.scopes[j]? = some s) (hx : T.tasks[o]? = some x) (hl : x.opn.getLast? = some (j + 1)) (hlive : s.live ≤ 0) : Inv (T.finished j o s x) := by
  rcases List.eq_nil_or_concat x.opn with ho | ⟨l, q, ho⟩
  · rw [ho] at hl; simp at hl
  · rw [List.concat_eq_append] at ho
    have hq : q = j + 1 := by rw [ho] at hl; simpa using hl
    subst hq
    exact I.finished (x' := { x with opn := x.opn.dropLast, leaving := false, flt := .none }) (s' := { s with over := true }) hs hx ho hlive rfl rfl (by simp only [ho, List.dropLast_concat]) rfl rfl rfl rfl

theorem leaves_scope {i j : Nat} {x : TaskA} {s : ScopeA} (f : Flt) (hs : T.scopes[j]? = some s) : (T.leaves i j x f).scopes[j]? = some (blameS s f) := TreeA.blame_look hs f
theorem leaves_task {i j : Nat} {x : TaskA} (f : Flt) (hx : T.tasks[i]? = some x) : (T.leaves i j x f).tasks[i]? = some { x with leaving := true, flt := f } := set_at (List.getElem?_eq_some_iff.1 hx).1 _

theorem Inv.leaveR (I : Inv T) (n : Int) (f : Flt) : Inv (T.leaveR n f).1 := by
  unfold TreeA.leaveR
  cases h : T.run? n with
  | none => exact I
  | some i =>
    obtain ⟨x, hx, hr⟩ := TreeA.run?_of h
    simp only [hx]
    split
    · exact I
    · split
      · exact I
      · cases hl : x.opn.getLast? with
        | none => exact I
        | some q =>
          cases q with
          | zero => exact I
          | succ j =>
            simp only
            cases hs : T.scopes[j]? with
            | none => exact I
            | some s =>
              simp only
              have I1 := I.leaves (j := j) f hx hr
              split
              · exact I1
              · rename_i hlive
                exact I1.finishedR (leaves_scope f hs) (leaves_task f hx) hl (by rw [(blameS_live s f).1]; omega)

theorem Inv.finR (I : Inv T) {j o : Nat} {s : ScopeA} {x : TaskA} (hs : T.scopes[j]? = some s) (hx : T.tasks[o]? = some x) : Inv (TreeA.fin T j o s x) := by
  unfold TreeA.fin
  split
  · rename_i hb
    obtain ⟨_, h2, h3⟩ := fin_iff.1 hb
    exact I.finishedR hs hx h2 h3
  · exact I

theorem Inv.endR (I : Inv T) (n : Int) (f : Flt) : Inv (T.endR n f).1 := by
  unfold TreeA.endR
  cases h : T.run? n with
  | none => exact I
  | some i =>
    obtain ⟨x, hx, hr⟩ := TreeA.run?_of h
    simp only [hx]
    split
    · exact I
    · split
      · exact I
      · rename_i ho
        have ho : x.opn = [] := by simpa using ho
        cases hi : x.inn with
        | zero => exact I.ended (x' := { x with ended := true, flt := f }) hx hr ho rfl rfl ho T.scopes (.inl ⟨hi, rfl⟩)
        | succ j =>
          obtain ⟨s, hs, hm⟩ := I.inn i j x hx hi
          obtain ⟨o, y, hso, hy, _⟩ := I.own j s hs
          have hso' : s.owner - 1 = o := by omega
          simp only [hs, hso', hy]
          have hlt := ((I.kid j s hs).2 _ hm).1
          have hoi : i ≠ o := by omega
          have I1 : Inv (T.lost i j x s f) := I.ended (x' := { x with ended := true, flt := f }) hx hr ho rfl rfl ho _ (.inr ⟨j, s, hi, hs, rfl⟩)
          have hs1 : (T.lost i j x s f).scopes[j]? = some { s with live := s.live - 1 } := set_at (List.getElem?_eq_some_iff.1 hs).1 _
          have hy1 : (T.lost i j x s f).tasks[o]? = some y := by
            show (T.tasks.set i _)[o]? = some y
            rw [List.getElem?_set, if_neg hoi]
            exact hy
          split
          · exact I1.finR hs1 hy1
          · exact (I1.blame j f).finR (TreeA.blame_look hs1 f) hy1

end

/- ## The effects; how many scopes and tasks there are -/

section
variable {T : TreeA}

/-- A tree's effects name scopes that are there. -/
def EffsOk (T : TreeA) (es : List EffA) : Prop := es.length ≤ 8 ∧ ∀ e ∈ es, e.kind = 1 → ∃ i : Nat, i < T.scopes.length ∧ e.n = (i : Int) + 1

theorem effsOk_nil : EffsOk T [] := ⟨by simp, fun e h => by simp at h⟩
theorem effsOk_scope {j : Nat} (h : j < T.scopes.length) : EffsOk T [scopeEff j] := ⟨by simp, fun e he _ => by
  obtain rfl := List.mem_singleton.1 he
  exact ⟨j, h, rfl⟩⟩

theorem failR_ok (n : Int) (f : Flt) : (T.failR n f).1.scopes.length = T.scopes.length ∧ (T.failR n f).1.tasks = T.tasks ∧ EffsOk (T.failR n f).1 (T.failR n f).2.1 := by
  unfold TreeA.failR
  cases h : T.scope? n with
  | none => exact ⟨rfl, rfl, effsOk_nil⟩
  | some i =>
    obtain ⟨_, s, hs⟩ := TreeA.scope?_some h
    simp only [hs]
    split
    · exact ⟨rfl, rfl, effsOk_nil⟩
    · split
      · exact ⟨rfl, rfl, effsOk_nil⟩
      · split
        · exact ⟨by simp [TreeA.blamed], rfl, effsOk_scope (by simp [TreeA.blamed]; exact (List.getElem?_eq_some_iff.1 hs).1)⟩
        · exact ⟨rfl, rfl, effsOk_nil⟩

theorem blame_len (j : Nat) (f : Flt) : (T.blame j f).scopes.length = T.scopes.length := by simp [TreeA.blame]

theorem leaveR_ok (n : Int) (f : Flt) : (T.leaveR n f).1.scopes.length = T.scopes.length ∧ (T.leaveR n f).1.tasks.length = T.tasks.length ∧ EffsOk (T.leaveR n f).1 (T.leaveR n f).2.1 := by
  unfold TreeA.leaveR
  cases h : T.run? n with
  | none => exact ⟨rfl, rfl, effsOk_nil⟩
  | some i =>
    obtain ⟨x, hx, hr⟩ := TreeA.run?_of h
    simp only [hx]
    split
    · exact ⟨rfl, rfl, effsOk_nil⟩
    · split
      · exact ⟨rfl, rfl, effsOk_nil⟩
      · cases hl : x.opn.getLast? with
        | none => exact ⟨rfl, rfl, effsOk_nil⟩
        | some q =>
          cases q with
          | zero => exact ⟨rfl, rfl, effsOk_nil⟩
          | succ j =>
            simp only
            cases hs : T.scopes[j]? with
            | none => exact ⟨rfl, rfl, effsOk_nil⟩
            | some s =>
              simp only
              have hj := (List.getElem?_eq_some_iff.1 hs).1
              split
              · refine ⟨leaves_len, by simp [TreeA.leaves], ?_⟩
                split
                · exact effsOk_nil
                · exact effsOk_scope (by rw [leaves_len]; exact hj)
              · refine ⟨by simp [TreeA.finished, leaves_len], by simp [TreeA.finished, TreeA.leaves], by simp, fun e he hk => ?_⟩
                obtain rfl := List.mem_singleton.1 he
                simp [leftEff] at hk

theorem fin_len (j o : Nat) (s : ScopeA) (x : TaskA) : (TreeA.fin T j o s x).scopes.length = T.scopes.length ∧ (TreeA.fin T j o s x).tasks.length = T.tasks.length := by
  unfold TreeA.fin
  split
  · simp [TreeA.finished]
  · exact ⟨rfl, rfl⟩

theorem finEffs_kind (j o : Nat) (x : TaskA) (s : ScopeA) : ∀ e ∈ finEffs j o x s, e.kind ≠ 1 := fun e he => by
  unfold finEffs at he
  split at he
  · obtain rfl := List.mem_singleton.1 he
    simp [leftEff]
  · simp at he

theorem endR_ok (n : Int) (f : Flt) : (T.endR n f).1.scopes.length = T.scopes.length ∧ (T.endR n f).1.tasks.length = T.tasks.length ∧ EffsOk (T.endR n f).1 (T.endR n f).2.1 := by
  unfold TreeA.endR
  cases h : T.run? n with
  | none => exact ⟨rfl, rfl, effsOk_nil⟩
  | some i =>
    obtain ⟨x, hx, hr⟩ := TreeA.run?_of h
    simp only [hx]
    split
    · exact ⟨rfl, rfl, effsOk_nil⟩
    · split
      · exact ⟨rfl, rfl, effsOk_nil⟩
      · cases hi : x.inn with
        | zero => exact ⟨rfl, by simp [TreeA.ended], effsOk_nil⟩
        | succ j =>
          simp only
          cases hs : T.scopes[j]? with
          | none => exact ⟨rfl, rfl, effsOk_nil⟩
          | some s =>
            simp only
            have hj := (List.getElem?_eq_some_iff.1 hs).1
            cases hy : T.tasks[s.owner - 1]? with
            | none => exact ⟨rfl, rfl, effsOk_nil⟩
            | some y =>
              simp only
              split
              · obtain ⟨h1, h2⟩ := fin_len (T := T.lost i j x s f) j (s.owner - 1) { s with live := s.live - 1 } y
                refine ⟨h1.trans (by simp [TreeA.lost]), h2.trans (by simp [TreeA.lost]), ?_, fun e he hk => absurd hk (finEffs_kind _ _ _ _ e he)⟩
                have := finEffs_len j (s.owner - 1) y { s with live := s.live - 1 } 1
                unfold finEffs
                split <;> simp
              · obtain ⟨h1, h2⟩ := fin_len (T := (T.lost i j x s f).blame j f) j (s.owner - 1) (blameS { s with live := s.live - 1 } f) y
                have hsl : (TreeA.fin ((T.lost i j x s f).blame j f) j (s.owner - 1) (blameS { s with live := s.live - 1 } f) y).scopes.length = T.scopes.length := h1.trans ((blame_len j f).trans (by simp [TreeA.lost]))
                refine ⟨hsl, h2.trans (by simp [TreeA.lost, TreeA.blame]), ?_, fun e he hk => ?_⟩
                · rw [List.length_append]
                  have : (finEffs j (s.owner - 1) y (blameS { s with live := s.live - 1 } f)).length ≤ 1 := by unfold finEffs; split <;> simp
                  split <;> simp <;> omega
                · rcases List.mem_append.1 he with he | he
                  · split at he
                    · obtain rfl := List.mem_singleton.1 he
                      exact ⟨j, by rw [hsl]; exact hj, rfl⟩
                    · simp at he
                  · exact absurd hk (finEffs_kind _ _ _ _ e he)

end
end Go.Proofs.Ytoonkidlbnndcaa
