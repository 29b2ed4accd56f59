/-
  What lies below a scope has that scope in its way up: the plain law of CancelDown.
-/
import Derived.Test.YtoonkidlbnndcaaGInv
namespace Go.Proofs.Ytoonkidlbnndcaa
set_option linter.unusedVariables false
set_option linter.unusedSimpArgs false

section
variable {T : TreeA}

theorem lnk_scope {q : Nat} (h : (lnk q).1 = 2) : q ≠ 0 := fun e => by subst e; cases h

theorem chainN_fuel (U : UpOk T) : ∀ (i : Nat) (x : TaskA), T.tasks[i]? = some x → x.ended = false → ∀ (f g top : Nat), i < f → i < g → chainN T f i top = chainN T g i top := by
  intro i
  induction i using Nat.strongRecOn with
  | ind i ih =>
    intro x hx he f g top hf hg
    obtain ⟨f, rfl⟩ : ∃ k, f = k + 1 := ⟨f - 1, by omega⟩
    obtain ⟨g, rfl⟩ : ∃ k, g = k + 1 := ⟨g - 1, by omega⟩
    unfold chainN
    simp only [hx]
    by_cases h0 : x.inn = 0
    · rw [if_pos h0, if_pos h0]
    · rw [if_neg h0, if_neg h0]
      obtain ⟨s, o, k, y, h1, h2, h3, h4, h5, h6, h7⟩ := U i (x.inn - 1) x hx he (by omega)
      rw [h1]
      simp only
      rw [show s.owner - 1 = o by omega, h4]
      simp only
      rw [ih o h3 y h4 h5 f g _ (by omega) (by omega)]

/-- The way up from a scope, itself first. -/
def upN (T : TreeA) (j : Nat) : List LinkA := lnk (j + 1) :: match T.scopes[j]? with
  | none => []
  | some s => match T.tasks[s.owner - 1]? with
    | none => []
    | some y => chainN T s.owner (s.owner - 1) ((placeOf (j + 1) y.opn).getD 0)

theorem chain_un (U : UpOk T) {i : Nat} {x : TaskA} (hx : T.tasks[i]? = some x) (he : x.ended = false) {f : Nat} (hf : i < f) (top : Nat) :
    chainN T f i top = (x.opn.take top).reverse.map lnk ++ (1, i + 1) :: (if x.inn = 0 then [] else upN T (x.inn - 1)) := by
  obtain ⟨f, rfl⟩ : ∃ k, f = k + 1 := ⟨f - 1, by omega⟩
  conv => lhs; unfold chainN
  simp only [hx]
  by_cases h0 : x.inn = 0
  · rw [if_pos h0, if_pos h0]
  · rw [if_neg h0, if_neg h0]
    obtain ⟨s, o, k, y, h1, h2, h3, h4, h5, h6, h7⟩ := U i (x.inn - 1) x hx he (by omega)
    unfold upN
    rw [h1]
    simp only
    rw [show s.owner - 1 = o by omega, h4]
    simp only
    rw [show x.inn - 1 + 1 = x.inn by omega, h2, chainN_fuel U o y h4 h5 f (o + 1) _ (by omega) (by omega)]

/-- .. of a scope that lies in a running task's links. -/
theorem upN_un (U : UpOk T) {j o k : Nat} {s : ScopeA} {y : TaskA} (hs : T.scopes[j]? = some s) (ho : s.owner = o + 1) (hy : T.tasks[o]? = some y) (he : y.ended = false) (hp : placeOf (j + 1) y.opn = some k) :
    upN T j = lnk (j + 1) :: ((y.opn.take k).reverse.map lnk ++ (1, o + 1) :: (if y.inn = 0 then [] else upN T (y.inn - 1))) := by
  conv => lhs; unfold upN
  rw [hs]
  simp only
  rw [show s.owner - 1 = o by omega, hy]
  simp only
  rw [hp, ho, chain_un U hy he (Nat.lt_succ_self o)]
  rfl

theorem placeOf_some {s k : Nat} {ns : List Nat} (h : placeOf s ns = some k) : k < ns.length ∧ ns[k]? = some s := by
  unfold placeOf at h
  obtain ⟨hk, h1, _⟩ := List.findIdx?_eq_some_iff_getElem.1 h
  refine ⟨hk, ?_⟩
  rw [List.getElem?_eq_getElem hk]
  simpa using h1

theorem placeOf_mem {s : Nat} {ns : List Nat} (h : s ∈ ns) : ∃ k, placeOf s ns = some k := by
  unfold placeOf
  cases hf : ns.findIdx? (· == s) with
  | some k => exact ⟨k, rfl⟩
  | none =>
    rw [List.findIdx?_eq_none_iff] at hf
    have := hf s h
    simp at this

theorem chainAt_un (U : UpOk T) {i : Nat} {x : TaskA} (hx : T.tasks[i]? = some x) (he : x.ended = false) :
    T.chainAt i = x.opn.reverse.map lnk ++ (1, i + 1) :: (if x.inn = 0 then [] else upN T (x.inn - 1)) := by
  unfold TreeA.chainAt
  rw [hx]
  simp only
  rw [chain_un U hx he (Nat.lt_succ_self i), List.take_length]

/-- A task below scope j: its way up leads to that scope, and what is on the way there are later scopes. -/
theorem below_up (I : Inv T) : ∀ (f j m : Nat), m ∈ belowN T f j →
    ∃ (i : Nat) (x : TaskA) (pre : List LinkA), m = i + 1 ∧ T.tasks[i]? = some x ∧ x.ended = false ∧ T.chainAt i = pre ++ upN T j ∧ ∀ p ∈ pre, p.1 = 2 → j + 1 < p.2
  | 0, j, m, h => by simp [belowN] at h
  | f + 1, j, m, h => by
    have U := I.fit.up
    have D := I.fit.down
    unfold belowN at h
    cases hs : T.scopes[j]? with
    | none => rw [hs] at h; simp at h
    | some s =>
      rw [hs] at h
      simp only [List.mem_append, List.mem_flatMap] at h
      rcases h with ⟨c, hc, h⟩ | h
      · unfold kidB at h
        cases hx : T.tasks[c - 1]? with
        | none => rw [hx] at h; simp at h
        | some x =>
          rw [hx] at h
          simp only at h
          cases he : x.ended with
          | true => rw [he] at h; simp at h
          | false =>
            rw [he] at h
            simp only [Bool.false_eq_true, if_false, List.mem_cons] at h
            obtain ⟨hk1, hk2⟩ := I.kid j s hs
            obtain ⟨hlt, x', hx', hin⟩ := hk2 c hc
            rw [hx] at hx'
            cases hx'
            have hc1 : 1 ≤ c := by omega
            have hop : ∀ q ∈ x.opn, q ≠ 0 → j + 1 < q := (D.kid j s hs c hc).2.2 x hx he
            have hch := chainAt_un U hx he
            rw [if_neg (by omega), show x.inn - 1 = j by omega] at hch
            rcases h with rfl | h
            · refine ⟨m - 1, x, x.opn.reverse.map lnk ++ [(1, m - 1 + 1)], by omega, hx, he, by rw [hch]; simp, fun p hp h2 => ?_⟩
              rcases List.mem_append.1 hp with hp | hp
              · obtain ⟨q, hq, rfl⟩ := List.mem_map.1 hp
                exact hop q (by simpa using hq) (lnk_scope h2)
              · have : p = (1, m - 1 + 1) := by simpa using hp
                subst this
                cases h2
            · by_cases h0 : outerN x.opn = 0
              · rw [if_pos h0] at h; simp at h
              · rw [if_neg h0] at h
                obtain ⟨i, z, pre, h1, h2, h3, h4, h5⟩ := below_up I f _ m h
                have hm := outerN_mem h0
                have hj := hop _ hm h0
                obtain ⟨s', hs', ho', _, _⟩ := I.opn (c - 1) (outerN x.opn - 1) x hx (by rw [show outerN x.opn - 1 + 1 = outerN x.opn by omega]; exact hm)
                obtain ⟨k, hk⟩ := placeOf_mem (s := outerN x.opn - 1 + 1) (ns := x.opn) (by rw [show outerN x.opn - 1 + 1 = outerN x.opn by omega]; exact hm)
                have hup := upN_un U hs' ho' hx he hk
                rw [if_neg (by omega), show x.inn - 1 = j by omega] at hup
                refine ⟨i, z, pre ++ (lnk (outerN x.opn - 1 + 1) :: ((x.opn.take k).reverse.map lnk ++ [(1, c - 1 + 1)])), h1, h2, h3, by rw [h4, hup]; simp, fun p hp hp2 => ?_⟩
                rcases List.mem_append.1 hp with hp | hp
                · have := h5 p hp hp2
                  omega
                · rcases List.mem_cons.1 hp with rfl | hp
                  · show j + 1 < outerN x.opn - 1 + 1
                    omega
                  · rcases List.mem_append.1 hp with hp | hp
                    · obtain ⟨q, hq, rfl⟩ := List.mem_map.1 hp
                      exact hop q (List.mem_of_mem_take (by simpa using hq)) (lnk_scope hp2)
                    · have : p = (1, c - 1 + 1) := by simpa using hp
                      subst this
                      cases hp2
      · unfold lateB at h
        obtain ⟨o, y, ho, hy, hpl⟩ := D.own j s hs
        rw [show s.owner - 1 = o by omega, hy] at h
        simp only at h
        cases hp : placeOf (j + 1) y.opn with
        | none => rw [hp] at h; simp at h
        | some k =>
          rw [hp] at h
          simp only at h
          obtain ⟨hkl, hlate⟩ := hpl k hp
          by_cases h0 : outerN (y.opn.drop (k + 1)) = 0
          · rw [if_pos h0] at h; simp at h
          · rw [if_neg h0] at h
            obtain ⟨q, hq⟩ : ∃ q, q = outerN (y.opn.drop (k + 1)) := ⟨_, rfl⟩
            rw [← hq] at h h0
            have hqm : q ∈ y.opn.drop (k + 1) := by
              have := outerN_mem (ns := y.opn.drop (k + 1)) (by rw [← hq]; exact h0)
              rw [← hq] at this
              exact this
            have hjq := hlate q hqm h0
            have hqy : q ∈ y.opn := List.mem_of_mem_drop hqm
            have he : y.ended = false := by
              cases hye : y.ended with
              | false => rfl
              | true =>
                have := I.fin o y hy hye
                rw [this] at hqy
                simp at hqy
            obtain ⟨i, z, pre, h1, h2, h3, h4, h5⟩ := below_up I f _ m h
            obtain ⟨s', hs', ho', _, _⟩ := I.opn o (q - 1) y hy (by rw [show q - 1 + 1 = q by omega]; exact hqy)
            obtain ⟨k', hk'⟩ := placeOf_mem (s := q - 1 + 1) (ns := y.opn) (by rw [show q - 1 + 1 = q by omega]; exact hqy)
            have hup' := upN_un U hs' ho' hy he hk'
            have hup := upN_un U hs ho hy he hp
            obtain ⟨hk1, hk2⟩ := placeOf_some hk'
            obtain ⟨_, hk3⟩ := placeOf_some hp
            have hkk : k < k' := by
              rcases Nat.lt_trichotomy k k' with h' | h' | h'
              · exact h'
              · subst h'
                rw [hk2] at hk3
                injection hk3 with hk3
                omega
              · exfalso
                have hinc := I.inc o y hy
                have hsub : List.Sublist [q, j + 1] y.opn := by
                  have e1 : y.opn = y.opn.take k ++ (j + 1) :: y.opn.drop (k + 1) := by
                    have := (List.getElem?_eq_some_iff.1 hk3).2
                    rw [← this, ← List.drop_eq_getElem_cons hkl, List.take_append_drop]
                  have e2 : q ∈ y.opn.take k := by
                    have e3 : (y.opn.take k)[k']? = some (q - 1 + 1) := by rw [List.getElem?_take_of_lt h', hk2]
                    have := List.mem_of_getElem? e3
                    rwa [show q - 1 + 1 = q by omega] at this
                  rw [e1]
                  exact (List.singleton_sublist.2 e2).append (List.singleton_sublist.2 (List.mem_cons_self ..))
                have h2 := List.Pairwise.sublist (hsub.filter (· != 0)) hinc
                have h3 : List.filter (· != 0) [q, j + 1] = [q, j + 1] := by
                  have hq0 : (q != 0) = true := by simpa using h0
                  rw [List.filter_cons_of_pos (by simpa using h0), List.filter_cons_of_pos (by simp)]
                  rfl
                rw [h3] at h2
                simp at h2
                omega
            have hsplit : y.opn.take k' = y.opn.take k ++ (j + 1) :: (y.opn.take k').drop (k + 1) := by
              have e0 : (y.opn.take k')[k]? = some (j + 1) := by rw [List.getElem?_take_of_lt hkk, hk3]
              obtain ⟨e1, e2⟩ := List.getElem?_eq_some_iff.1 e0
              conv => lhs; rw [← List.take_append_drop k (y.opn.take k'), List.drop_eq_getElem_cons e1, e2, List.take_take, Nat.min_eq_left (by omega)]
            refine ⟨i, z, pre ++ (lnk (q - 1 + 1) :: ((y.opn.take k').drop (k + 1)).reverse.map lnk), h1, h2, h3, ?_, fun p hp' hp2 => ?_⟩
            · have hs2 : (y.opn.take k').reverse.map lnk = ((y.opn.take k').drop (k + 1)).reverse.map lnk ++ lnk (j + 1) :: (y.opn.take k).reverse.map lnk := by
                conv => lhs; rw [hsplit]
                generalize (y.opn.take k').drop (k + 1) = D
                simp
              rw [h4, hup', hup, hs2]
              simp only [List.append_assoc, List.cons_append]
            · rcases List.mem_append.1 hp' with hp' | hp'
              · have := h5 p hp' hp2
                omega
              · rcases List.mem_cons.1 hp' with rfl | hp'
                · show j + 1 < q - 1 + 1
                  omega
                · obtain ⟨r, hr, rfl⟩ := List.mem_map.1 hp'
                  have hr' : r ∈ (y.opn.take k').drop (k + 1) := by simpa using hr
                  refine hlate r ?_ (lnk_scope hp2)
                  rw [List.drop_take] at hr'
                  exact List.mem_of_mem_take hr'

/-! ### Who is pending -/

theorem pendL_append {ts ss : List Int} : ∀ (l l' : List LinkA), (∀ p ∈ l, p.1 ≠ 3) → pendL ts ss l' = true → pendL ts ss (l ++ l') = true
  | [], l', _, h => h
  | p :: l, l', h3, h => by
    rw [List.cons_append, pendL, if_neg (h3 p (List.mem_cons_self ..))]
    split
    · rfl
    · exact pendL_append l l' (fun q hq => h3 q (List.mem_cons_of_mem _ hq)) h

/-- THE LAW: task n is pending, the last that it opened is a scope; whoever is below that scope, without a shield ahead of it, is pending. -/
theorem down_law {G : GroveA} (I : InvG G) {i j : Nat} {x : TaskA} {l : List Nat} (hx : G.tree.tasks[i]? = some x) (he : x.ended = false) (hl : x.opn = l ++ [j + 1]) (hp : G.pending ((i : Int) + 1) = true)
    {f m : Nat} (hm : m ∈ belowN G.tree f j) :
    ∃ pre rest, G.tree.chain (m : Int) = pre ++ lnk (j + 1) :: rest ∧ (∀ p ∈ pre, p ≠ lnk (j + 1)) ∧ ((∀ p ∈ pre, p.1 ≠ 3) → G.pending (m : Int) = true) := by
  have U := I.inv.fit.up
  obtain ⟨i', x', pre, rfl, hx', he', hch, hpre⟩ := below_up I.inv f j m hm
  have hr : ∀ (i : Nat) (x : TaskA), G.tree.tasks[i]? = some x → x.ended = false → G.tree.chain (((i + 1 : Nat) : Int)) = G.tree.chainAt i := fun i x hx he => by
    unfold TreeA.chain TreeA.run?
    rw [if_pos (by omega), show (((i + 1 : Nat) : Int)).toNat - 1 = i by omega, hx]
    simp [he]
  have hmem : j + 1 ∈ x.opn := by rw [hl]; simp
  obtain ⟨s, hs, ho, _, _⟩ := I.inv.opn i j x hx hmem
  obtain ⟨k, hk⟩ := placeOf_mem hmem
  obtain ⟨hkl, hk1⟩ := placeOf_some hk
  have hinc := I.inv.inc i x hx
  have hkl' : k = l.length := by
    rw [hl] at hkl hk1 hinc
    simp at hkl
    rcases Nat.lt_or_ge k l.length with h | h
    · exfalso
      rw [List.getElem?_append_left h] at hk1
      have := List.mem_of_getElem? hk1
      have h2 := List.Pairwise.sublist (((List.singleton_sublist.2 this).append (List.Sublist.refl [j + 1])).filter (· != 0)) hinc
      simp [List.filter] at h2
    · omega
  have hup := upN_un U hs ho hx he hk
  have hcn := chainAt_un U hx he
  have htk : x.opn.take k = l := by rw [hl, hkl']; simp
  have hcu : G.tree.chainAt i = upN G.tree j := by
    rw [hcn, hup, htk, hl]
    simp
  refine ⟨pre, ((x.opn.take k).reverse.map lnk ++ (1, i + 1) :: (if x.inn = 0 then [] else upN G.tree (x.inn - 1))), ?_, fun p hp' e => ?_, fun h3 => ?_⟩
  · rw [hr i' x' hx' he', hch, hup]
  · subst e
    have := hpre _ hp' rfl
    simp [lnk] at this
  · unfold GroveA.pending at hp ⊢
    rw [hr i' x' hx' he', hch]
    refine pendL_append _ _ h3 ?_
    rw [← hcu, ← hr i x hx he]
    exact hp

end
end Go.Proofs.Ytoonkidlbnndcaa
