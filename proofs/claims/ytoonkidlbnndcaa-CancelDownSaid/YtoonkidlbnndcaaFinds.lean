/-
  The law's 'pending': the tasks that are pending, in the order of their numbers.
  Index, Contains, IndexFunc, ContainsFunc of links and of numbers.
  IndexFunc and ContainsFunc of links, with the laws' own functions.
-/
import Derived.Test.YtoonkidlbnndcaaPend2
namespace Go.Proofs.Ytoonkidlbnndcaa
set_option linter.unusedVariables false
set_option linter.unusedSimpArgs false
open Go.RowKit

def GroveA.pendU (G : GroveA) (k : Nat) : List Nat := ((List.range k).map (· + 1)).filter (fun n => G.pending (n : Int))

theorem GroveA.pendU_succ (G : GroveA) (k : Nat) : G.pendU (k + 1) = G.pendU k ++ (if G.pending ((k : Int) + 1) = true then [k + 1] else []) := by
  unfold GroveA.pendU
  rw [List.range_succ, List.map_append, List.filter_append]
  congr 1
  by_cases h : G.pending ((k : Int) + 1) = true
  · rw [if_pos h]
    simp [List.filter, h]
  · rw [if_neg h]
    simp only [Bool.not_eq_true] at h
    simp [List.filter, h]

theorem GroveA.pendU_len (G : GroveA) (k : Nat) : (G.pendU k).length ≤ k := by
  have := List.length_filter_le (fun n : Nat => G.pending (n : Int)) ((List.range k).map (· + 1))
  unfold GroveA.pendU
  simpa using this

theorem GroveA.mem_pendU {G : GroveA} {k m : Nat} : m ∈ G.pendU k ↔ 1 ≤ m ∧ m ≤ k ∧ G.pending (m : Int) = true := by
  unfold GroveA.pendU
  simp only [List.mem_filter, List.mem_map, List.mem_range]
  constructor
  · rintro ⟨⟨a, h1, rfl⟩, h2⟩
    exact ⟨by omega, by omega, h2⟩
  · rintro ⟨h1, h2, h3⟩
    exact ⟨⟨m - 1, by omega, by omega⟩, h3⟩

/-- A row of numbers in new memory. -/
def IntsAt (w : World) (ns : List Nat) (u : Value) (W : World) : Prop := W.ownsRow 0 3 1 u ns.length (ns.map intCell) ∧ Fresh w u ∧ Below w.heap.size w W

section
variable {K : Kap} {A : GAt} {G : GroveA} {w w' : World}

theorem IntsAt.below {ns : List Nat} {u : Value} {W W' : World} (h : IntsAt w ns u W) (hb : Below W.heap.size W W') : IntsAt w ns u W' :=
  ⟨owns_of h.1 (fun b e => hb.block b (h.1.lt b e).2), h.2.1, h.2.2.trans (hb.mono h.2.2.size)⟩

set_option maxRecDepth 100000 in
set_option maxHeartbeats 4000000 in
theorem gpendings (R : GRep K A G w) (F : FitT G.tree) : Calls Try.prog 11 #[.pointer (some ⟨A.g, 0, none⟩)] w fun e w' => ∃ v, e = .returned v ∧ IntsAt w (G.pendU 64) v w' := by
  have CP : Hid (∀ (W : World) (n : Int), Below w.heap.size w W → Calls Try.prog 18 #[.pointer (some ⟨A.g, 0, none⟩), .int .i64 n] W fun e w' => e = .returned (.bool (G.pending n)) ∧ Below W.heap.size W w') :=
    fun W n hW => gpending (R.below hW) F n
  clear R F
  go_enter Try.func11, Try.ntmps11
  go_wp2
  go_loopw [3, 4] (fun u i wr => ∃ k : Nat, k ≤ 64 ∧ i = .int .i64 ((k : Int) + 1) ∧ Hid (IntsAt w (G.pendU k) u wr)) (fun _ i _ => 65 - (intOf i).toNat)
  case atStart => exact ⟨0, by omega, rfl, World.ownsRow_nil _ _ _ _, (fun b hb => by cases hb), Below.refl _ _⟩
  case round =>
    obtain ⟨k, hk, rfl, HU⟩ := hrel
    by_cases hlt : k < 64
    · have C1 := Lib.hid (CP.out wr ((k : Int) + 1) HU.out.2.2)
      obtain ⟨ad, cap, rfl⟩ := owns_shape HU.out.1
      have hs := G.pendU_succ k
      have hlen := G.pendU_len k
      by_cases hp : G.pending ((k : Int) + 1) = true
      · rw [hp] at C1
        rw [if_pos hp] at hs
        have Hs := Lib.hid hs
        have hl6 : (G.pendU k).length ≤ 1000000 := by omega
        clear hs hp hlen
        generalize hn : (G.pendU k).length = n at *
        have Hn := Lib.hid hn
        clear hn
        go_wp2_with (first | (go_at_call 18; refine C1.out.mono ?_; rintro e w1 ⟨rfl, hb⟩; have HU1 := Lib.hid (HU.out.below hb); clear hb) | (at_builtin; refine wpList_push rfl (.tmp 12) (.tmp 14) 26 rfl 3 1 8 _ Try.infoInt rfl (by omega) (by omega) Try.underlying26 (.slice ad n cap) n ((G.pendU k).map intCell) rfl (Hn.out ▸ HU1.out.1) _ _ rfl (by simp) rfl (by simp [Value.oneCell']) hl6 ?_; intro g cap' w2 hown2 hgrow2 hat2; have hown2 := Lib.hid hown2; have hgrow2 := Lib.hid hgrow2; have hat2 := Lib.hid hat2))
        go_roundw
        case rel =>
          refine ⟨k + 1, by omega, by go_num, ?_, ?_, ?_⟩
          · rw [Hs.out, List.length_append, List.map_append, Hn.out]
            exact hown2.out
          · intro b hb
            have hb : g = b := by simpa [Value.ownBlock] using hb
            subst hb
            rcases hat2.out with h | h
            · exact HU1.out.2.1 _ h
            · exact Nat.le_trans HU1.out.2.2.size h
          · exact HU1.out.2.2.grown hgrow2.out HU1.out.2.2.size (fun b hb => HU1.out.2.1 b hb)
        case measure => simp [intOf]; omega
      · rw [Bool.not_eq_true] at hp
        rw [hp] at C1 hs
        have hs' : G.pendU (k + 1) = G.pendU k := by simpa using hs
        have Hs := Lib.hid hs'
        clear hs hs' hp hlen
        go_wp2_with (go_at_call 18; refine C1.out.mono ?_; rintro e w1 ⟨rfl, hb⟩; have HU1 := Lib.hid (HU.out.below hb); clear hb)
        go_roundw
        case rel =>
          refine ⟨k + 1, by omega, by go_num, ?_⟩
          rw [Hs.out]
          exact HU1
        case measure => simp [intOf]; omega
    · obtain rfl : k = 64 := by omega
      go_wp2
      go_returns
      exact ⟨_, rfl, HU.out⟩

end
end Go.Proofs.Ytoonkidlbnndcaa

namespace Go.Proofs.Ytoonkidlbnndcaa
set_option linter.unusedVariables false
set_option linter.unusedSimpArgs false
open Go.RowKit

def posOf {α : Type} (P : α → Bool) (ls : List α) : Int := match ls.findIdx? P with
  | some k => (k : Int)
  | none => -1

theorem posOf_at {α : Type} {P : α → Bool} {ls : List α} {k : Nat} {p : α} (h : ∀ (j : Nat) (x : α), j < k → ls[j]? = some x → P x = false) (hk : ls[k]? = some p) (hp : P p = true) : posOf P ls = (k : Int) := by
  obtain ⟨hl, hv⟩ := List.getElem?_eq_some_iff.1 hk
  unfold posOf
  rw [List.findIdx?_eq_some_iff_getElem.2 ⟨hl, by rw [hv]; exact hp, fun j hj => by rw [h j _ hj (List.getElem?_eq_getElem (by omega))]; simp⟩]

theorem posOf_none {α : Type} {P : α → Bool} {ls : List α} (h : ∀ (j : Nat) (x : α), j < ls.length → ls[j]? = some x → P x = false) : posOf P ls = -1 := by
  unfold posOf
  rw [List.findIdx?_eq_none_iff.2]
  intro x hx
  obtain ⟨j, hj, rfl⟩ := List.getElem_of_mem hx
  exact h j _ hj (List.getElem?_eq_getElem hj)

theorem posOf_any {α : Type} (P : α → Bool) (ls : List α) : decide (0 ≤ posOf P ls) = ls.any P := by
  unfold posOf
  cases h : ls.findIdx? P with
  | none =>
    rw [List.findIdx?_eq_none_iff] at h
    have : ls.any P = false := by
      rw [List.any_eq_false]
      intro x hx
      simp [h x hx]
    rw [this]
    rfl
  | some k =>
    obtain ⟨hk, hp, _⟩ := List.findIdx?_eq_some_iff_getElem.1 h
    have : ls.any P = true := List.any_eq_true.2 ⟨_, List.getElem_mem hk, hp⟩
    rw [this]
    simp

/-- A slice of links, to be read. -/
def LinksIn (w : World) (v : Value) (ls : List LinkA) : Prop := ∃ ad cap, v = .slice ad ls.length cap ∧ ls.length ≤ cap ∧ cap ≤ 9223372036854775807 ∧
  ∀ (k : Nat) (p : LinkA), ls[k]? = some p → ∃ b, ad = some ⟨b, 0, none⟩ ∧ b < w.heap.size ∧ w.cell? ⟨b, k * 2, none⟩ = some (.int .i64 p.1) ∧ w.cell? ⟨b, k * 2 + 1, none⟩ = some (.int .i64 (p.2 : Int))
/-- A slice of numbers, to be read. -/
def IntsIn (w : World) (v : Value) (ns : List Nat) : Prop := ∃ ad cap, v = .slice ad ns.length cap ∧ ns.length ≤ cap ∧ cap ≤ 9223372036854775807 ∧
  ∀ (k : Nat) (p : Nat), ns[k]? = some p → ∃ b, ad = some ⟨b, 0, none⟩ ∧ b < w.heap.size ∧ w.cell? ⟨b, k, none⟩ = some (.int .i64 (p : Int))

theorem links_len (ls : List LinkA) : (ls.flatMap LinkA.cells).length = ls.length * 2 := by
  induction ls with
  | nil => rfl
  | cons a l ih => simp only [List.flatMap_cons, List.length_append, ih, List.length_cons]; simp [LinkA.cells]; omega

theorem links_get : ∀ (ls : List LinkA) (k : Nat) (p : LinkA), ls[k]? = some p → (ls.flatMap LinkA.cells)[k * 2]? = some (.int .i64 p.1) ∧ (ls.flatMap LinkA.cells)[k * 2 + 1]? = some (.int .i64 (p.2 : Int))
  | [], k, p, h => by simp at h
  | a :: l, 0, p, h => by
    obtain rfl : a = p := by simpa using h
    exact ⟨rfl, rfl⟩
  | a :: l, k + 1, p, h => by
    rw [List.flatMap_cons, show (k + 1) * 2 = k * 2 + 1 + 1 by omega]
    exact links_get l k p (by simpa using h)

section
variable {w w' : World} {v : Value} {ls : List LinkA} {ns : List Nat}

theorem LinksIn.of_owns (h : w.ownsRow 0 37 2 v ls.length (ls.flatMap LinkA.cells)) : LinksIn w v ls := by
  have hv := h
  have hll := links_len ls
  rcases h.2 with ⟨rfl, h0⟩ | ⟨b, cap, cur, rfl, _, hgg, hn, hm, _, _⟩
  · have : ls = [] := by cases ls with
      | nil => rfl
      | cons a l => simp at h0
    subst this
    exact ⟨none, 0, rfl, Nat.le_refl _, by omega, fun k p hk => by simp at hk⟩
  · refine ⟨_, _, rfl, hn, by unfold maxLen at hm; omega, fun k p hk => ?_⟩
    have hk' := (List.getElem?_eq_some_iff.1 hk).1
    obtain ⟨h1, h2⟩ := links_get ls k p hk
    exact ⟨b, rfl, (Array.getElem?_eq_some_iff.1 hgg).1, (hv.cellAt _ (by omega)).trans h1, (hv.cellAt _ (by omega)).trans h2⟩

theorem LinksIn.below (h : LinksIn w v ls) (hb : Below w.heap.size w w') : LinksIn w' v ls := by
  obtain ⟨ad, cap, h1, h2, h3, h4⟩ := h
  refine ⟨ad, cap, h1, h2, h3, fun k p hk => ?_⟩
  obtain ⟨b, e, lb, c0, c1⟩ := h4 k p hk
  exact ⟨b, e, Nat.lt_of_lt_of_le lb hb.size, (hb.cell (p := ⟨b, k * 2, none⟩) lb).trans c0, (hb.cell (p := ⟨b, k * 2 + 1, none⟩) lb).trans c1⟩

theorem LinksIn.take {ad : Option Addr} {n cap : Nat} (h : LinksIn w (.slice ad n cap) ls) {m : Nat} (hm : m ≤ ls.length) : LinksIn w (.slice ad m cap) (ls.take m) := by
  obtain ⟨ad', cap', h1, h2, h3, h4⟩ := h
  injection h1 with q1 q2 q3
  subst q1 q3
  have hl : (ls.take m).length = m := by simp; omega
  refine ⟨ad, cap, by rw [hl], by rw [hl]; omega, h3, fun k p hk => h4 k p ?_⟩
  have hk' := (List.getElem?_eq_some_iff.1 hk).1
  rw [hl] at hk'
  rwa [List.getElem?_take_of_lt hk'] at hk

theorem IntsIn.of_owns (h : w.ownsRow 0 3 1 v ns.length (ns.map intCell)) : IntsIn w v ns := by
  have hv := h
  rcases h.2 with ⟨rfl, h0⟩ | ⟨b, cap, cur, rfl, _, hgg, hn, hm, _, _⟩
  · have : ns = [] := by cases ns with
      | nil => rfl
      | cons a l => simp at h0
    subst this
    exact ⟨none, 0, rfl, Nat.le_refl _, by omega, fun k p hk => by simp at hk⟩
  · refine ⟨_, _, rfl, hn, by unfold maxLen at hm; omega, fun k p hk => ?_⟩
    have hk' := (List.getElem?_eq_some_iff.1 hk).1
    refine ⟨b, rfl, (Array.getElem?_eq_some_iff.1 hgg).1, (hv.cellAt _ (by simpa using hk')).trans ?_⟩
    rw [List.getElem?_map, hk]
    rfl

theorem IntsIn.below (h : IntsIn w v ns) (hb : Below w.heap.size w w') : IntsIn w' v ns := by
  obtain ⟨ad, cap, h1, h2, h3, h4⟩ := h
  refine ⟨ad, cap, h1, h2, h3, fun k p hk => ?_⟩
  obtain ⟨b, e, lb, c0⟩ := h4 k p hk
  exact ⟨b, e, Nat.lt_of_lt_of_le lb hb.size, (hb.cell (p := ⟨b, k, none⟩) lb).trans c0⟩

def isLink (q : Int × Int) (p : LinkA) : Bool := decide (p.1 = q.1 ∧ (p.2 : Int) = q.2)

set_option maxRecDepth 100000 in
set_option maxHeartbeats 4000000 in
theorem ixlink (h : LinksIn w v ls) (hl : ls.length ≤ 1000000) (a b : Int) : Calls Try.prog 15 #[v, .agg #[.int .i64 a, .int .i64 b]] w fun e w' => e = .returned (.int .i64 (posOf (isLink (a, b)) ls)) ∧ Below w.heap.size w w' := by
  have hb0 : Below w.heap.size w (w.alloc (.cells #[.int .i64 a, .int .i64 b] 37)) := (Below.refl _ _).alloc (Nat.le_refl _) _
  have h0 := Blk.new w 37 #[.int .i64 a, .int .i64 b]
  have HL := Lib.hid (h.below hb0)
  have Hb0 := Lib.hid hb0
  obtain ⟨ad, cap, rfl, hc, hm, _⟩ := h
  clear hb0
  obtain ⟨n, hn⟩ : ∃ n, n = ls.length := ⟨_, rfl⟩
  rw [← hn] at HL hl hc ⊢
  have Hn := Lib.hid hn
  clear hn
  go_enter Try.func15, Try.ntmps15
  go_wp2
  generalize hW0 : w.alloc (.cells #[.int .i64 a, .int .i64 b] 37) = W0 at *
  have x0 := h0.cell 0 rfl
  have x1 := h0.cell 1 rfl
  have lx := h0.lt
  clear hW0 h0
  go_loopw [8] (fun i wr => ∃ k : Nat, k ≤ n ∧ i = .int .i64 (k : Int) ∧ Hid (∀ (j : Nat) (p : LinkA), j < k → ls[j]? = some p → isLink (a, b) p = false) ∧ Hid (Below W0.heap.size W0 wr)) (fun i _ => n - (intOf i).toNat)
  case atStart => exact ⟨0, Nat.zero_le _, rfl, (fun j p hj => by omega), Below.refl _ _⟩
  case round =>
    obtain ⟨k, hk, rfl, HZ, HB⟩ := hrel
    have y0 := (HB.out.cell (p := ⟨w.heap.size, 0, none⟩) lx).trans x0
    have y1 := (HB.out.cell (p := ⟨w.heap.size, 1, none⟩) lx).trans x1
    by_cases hlt : k < n
    · obtain ⟨p, hp⟩ : ∃ p, ls[k]? = some p := ⟨_, List.getElem?_eq_getElem (by rw [← Hn.out]; exact hlt)⟩
      obtain ⟨ad', cap', e1, _, _, e4⟩ := HL.out
      injection e1 with q1 q2 q3
      subst q1 q3
      obtain ⟨bb, rfl, lb, c0, c1⟩ := e4 k p hp
      have s0 := (HB.out.cell (p := ⟨bb, k * 2, none⟩) lb).trans c0
      have s1 := (HB.out.cell (p := ⟨bb, k * 2 + 1, none⟩) lb).trans c1
      have Hp := Lib.hid hp
      clear c0 c1 e4 hp q2
      by_cases hq : p.1 = a ∧ (p.2 : Int) = b
      · have HP : Hid (posOf (isLink (a, b)) ls = (k : Int)) := posOf_at HZ.out Hp.out (by unfold isLink; simp [hq])
        obtain ⟨rfl, rfl⟩ := hq
        go_wp2
        go_region
        all_goals
          go_wp2
          go_returns
          exact ⟨by rw [HP.out]; rfl, (Hb0.out.trans (HB.out.mono Hb0.out.size)).drew⟩
      · have HP : Hid (isLink (a, b) p = false) := by unfold Hid isLink; simpa using hq
        by_cases ha : a = p.1
        · have hb : ¬ b = (p.2 : Int) := fun e => hq ⟨ha.symm, e.symm⟩
          subst ha
          clear hq
          go_wp2
          go_region
          all_goals
            go_wp2
            go_roundw
            case rel => exact ⟨k + 1, by omega, by go_num, (fun j x hj hx => by
              rcases Nat.lt_or_ge j k with h | h
              · exact HZ.out j x h hx
              · obtain rfl : j = k := by omega
                rw [Hp.out] at hx
                cases hx
                exact HP.out), HB.out.drew⟩
            case measure => simp [intOf]; omega
        · clear hq
          go_wp2
          go_region
          all_goals
            go_wp2
            go_roundw
            case rel => exact ⟨k + 1, by omega, by go_num, (fun j x hj hx => by
              rcases Nat.lt_or_ge j k with h | h
              · exact HZ.out j x h hx
              · obtain rfl : j = k := by omega
                rw [Hp.out] at hx
                cases hx
                exact HP.out), HB.out.drew⟩
            case measure => simp [intOf]; omega
    · obtain rfl : k = n := by omega
      have HP : Hid (posOf (isLink (a, b)) ls = -1) := posOf_none (fun j x hj hx => HZ.out j x (by rw [Hn.out]; exact hj) hx)
      go_wp2
      go_returns
      exact ⟨by rw [HP.out]; rfl, Hb0.out.trans (HB.out.mono Hb0.out.size)⟩

set_option maxRecDepth 100000 in
theorem haslink (h : LinksIn w v ls) (hl : ls.length ≤ 1000000) (a b : Int) : Calls Try.prog 23 #[v, .agg #[.int .i64 a, .int .i64 b]] w fun e w' => e = .returned (.bool (ls.any (isLink (a, b)))) ∧ Below w.heap.size w w' := by
  have hb0 : Hid (∀ o, Below w.heap.size w (w.alloc o)) := fun o => (Below.refl _ _).alloc (Nat.le_refl _) o
  have C : Hid (∀ W, Below w.heap.size w W → Calls Try.prog 15 #[v, .agg #[.int .i64 a, .int .i64 b]] W fun e w' => e = .returned (.int .i64 (posOf (isLink (a, b)) ls)) ∧ Below W.heap.size W w') := fun W hW => ixlink (h.below hW) hl a b
  have hp : Hid (decide (0 ≤ posOf (isLink (a, b)) ls) = ls.any (isLink (a, b))) := posOf_any _ _
  clear h hl
  generalize posOf (isLink (a, b)) ls = q at *
  generalize ls.any (isLink (a, b)) = an at *
  go_enter Try.func23, Try.ntmps23
  go_wp2_with (go_at_call 15; refine (C.out _ (hb0.out _)).mono ?_; rintro e w1 ⟨rfl, hb⟩; have hb := Lib.hid ((hb0.out _).trans (hb.mono (hb0.out _).size)))
  go_returns
  exact ⟨by rw [← hp.out]; rfl, hb.out⟩

set_option maxRecDepth 100000 in
set_option maxHeartbeats 4000000 in
theorem ixint (h : IntsIn w v ns) (hl : ns.length ≤ 1000000) (a : Int) : Calls Try.prog 54 #[v, .int .i64 a] w fun e w' => e = .returned (.int .i64 (posOf (fun n : Nat => decide ((n : Int) = a)) ns)) ∧ Below w.heap.size w w' := by
  have HL := Lib.hid h
  obtain ⟨ad, cap, rfl, hc, hm, _⟩ := h
  obtain ⟨n, hn⟩ : ∃ n, n = ns.length := ⟨_, rfl⟩
  rw [← hn] at HL hl hc ⊢
  have Hn := Lib.hid hn
  clear hn
  obtain ⟨P, hP⟩ : ∃ P : Nat → Bool, P = fun n : Nat => decide ((n : Int) = a) := ⟨_, rfl⟩
  rw [← hP]
  have hP := Lib.hid hP
  go_enter Try.func54, Try.ntmps54
  go_wp2
  go_loopw [8] (fun i wr => ∃ k : Nat, k ≤ n ∧ i = .int .i64 (k : Int) ∧ Hid (∀ (j : Nat) (p : Nat), j < k → ns[j]? = some p → P p = false) ∧ Hid (Below w.heap.size w wr)) (fun i _ => n - (intOf i).toNat)
  case atStart => exact ⟨0, Nat.zero_le _, rfl, (fun j p hj => by omega), Below.refl _ _⟩
  case round =>
    obtain ⟨k, hk, rfl, HZ, HB⟩ := hrel
    by_cases hlt : k < n
    · obtain ⟨p, hp⟩ : ∃ p, ns[k]? = some p := ⟨_, List.getElem?_eq_getElem (by rw [← Hn.out]; exact hlt)⟩
      obtain ⟨ad', cap', e1, _, _, e4⟩ := HL.out
      injection e1 with q1 q2 q3
      subst q1 q3
      obtain ⟨bb, rfl, lb, c0⟩ := e4 k p hp
      have s0 := (HB.out.cell (p := ⟨bb, k, none⟩) lb).trans c0
      have Hp := Lib.hid hp
      clear c0 e4 hp q2
      by_cases hq : (p : Int) = a
      · have HP : Hid (posOf P ns = (k : Int)) := posOf_at HZ.out Hp.out (by rw [hP.out]; simp [hq])
        subst hq
        go_wp2
        go_returns
        exact ⟨by rw [HP.out]; rfl, HB.out⟩
      · have HP : Hid (P p = false) := by unfold Hid; rw [hP.out]; simpa using hq
        have hq' : (a == (p : Int)) = false := by simpa using fun e : a = (p : Int) => hq e.symm
        clear hq
        go_wp2
        go_roundw
        case rel => exact ⟨k + 1, by omega, by go_num, (fun j x hj hx => by
          rcases Nat.lt_or_ge j k with h | h
          · exact HZ.out j x h hx
          · obtain rfl : j = k := by omega
            rw [Hp.out] at hx
            cases hx
            exact HP.out), HB.out⟩
        case measure => simp [intOf]; omega
    · obtain rfl : k = n := by omega
      have HP : Hid (posOf P ns = -1) := posOf_none (fun j x hj hx => HZ.out j x (by rw [Hn.out]; exact hj) hx)
      go_wp2
      go_returns
      exact ⟨by rw [HP.out]; rfl, HB.out⟩

set_option maxRecDepth 100000 in
theorem hasint (h : IntsIn w v ns) (hl : ns.length ≤ 1000000) (a : Int) : Calls Try.prog 28 #[v, .int .i64 a] w fun e w' => e = .returned (.bool (ns.any (fun n : Nat => decide ((n : Int) = a)))) ∧ Below w.heap.size w w' := by
  have C := Lib.hid (ixint h hl a)
  have hp : Hid (decide (0 ≤ posOf (fun n : Nat => decide ((n : Int) = a)) ns) = ns.any (fun n : Nat => decide ((n : Int) = a))) := posOf_any _ _
  clear h hl
  generalize posOf (fun n : Nat => decide ((n : Int) = a)) ns = q at *
  generalize ns.any (fun n : Nat => decide ((n : Int) = a)) = an at *
  go_enter Try.func28, Try.ntmps28
  go_wp2_with (go_at_call 54; refine C.out.mono ?_; rintro e w1 ⟨rfl, hb⟩; have hb := Lib.hid hb)
  go_returns
  exact ⟨by rw [← hp.out]; rfl, hb.out⟩

end
end Go.Proofs.Ytoonkidlbnndcaa

namespace Go.Proofs.Ytoonkidlbnndcaa
set_option linter.unusedVariables false
set_option linter.unusedSimpArgs false
open Go.RowKit

def isShield (p : LinkA) : Bool := decide (p.1 = 3)

section
variable {w w' : World} {v : Value} {ls : List LinkA}

set_option maxRecDepth 100000 in
theorem clo_down (a b : Int) (w : World) : Calls Try.prog 17 #[.agg #[.int .i64 a, .int .i64 b]] w fun e w' => e = .returned (.bool (decide (a = 3))) ∧ Below w.heap.size w w' := by
  have hb := Lib.hid ((Below.refl w.heap.size w).alloc (Nat.le_refl _) (.cells #[.int .i64 a, .int .i64 b] 37))
  go_enter Try.func17, Try.ntmps17
  go_wp2
  go_returns
  exact ⟨rfl, hb.out⟩

set_option maxRecDepth 100000 in
set_option maxHeartbeats 4000000 in
theorem ixf_down (h : LinksIn w v ls) (hl : ls.length ≤ 1000000) : Calls Try.prog 46 #[v, .func (.func 17) #[] #[]] w fun e w' => e = .returned (.int .i64 (posOf isShield ls)) ∧ Below w.heap.size w w' := by
  have HL := Lib.hid h
  obtain ⟨ad, cap, rfl, hc, hm, _⟩ := h
  obtain ⟨n, hn⟩ : ∃ n, n = ls.length := ⟨_, rfl⟩
  rw [← hn] at HL hl hc ⊢
  have Hn := Lib.hid hn
  clear hn
  go_enter Try.func46, Try.ntmps46
  go_wp2
  go_loopw [8] (fun i wr => ∃ k : Nat, k ≤ n ∧ i = .int .i64 (k : Int) ∧ Hid (∀ (j : Nat) (p : LinkA), j < k → ls[j]? = some p → isShield p = false) ∧ Hid (Below w.heap.size w wr)) (fun i _ => n - (intOf i).toNat)
  case atStart => exact ⟨0, Nat.zero_le _, rfl, (fun j p hj => by omega), Below.refl _ _⟩
  case round =>
    obtain ⟨k, hk, rfl, HZ, HB⟩ := hrel
    by_cases hlt : k < n
    · obtain ⟨p, hp⟩ : ∃ p, ls[k]? = some p := ⟨_, List.getElem?_eq_getElem (by rw [← Hn.out]; exact hlt)⟩
      obtain ⟨ad', cap', e1, _, _, e4⟩ := HL.out
      injection e1 with q1 q2 q3
      subst q1 q3
      obtain ⟨bb, rfl, lb, c0, c1⟩ := e4 k p hp
      have s0 := (HB.out.cell (p := ⟨bb, k * 2, none⟩) lb).trans c0
      have s1 := (HB.out.cell (p := ⟨bb, k * 2 + 1, none⟩) lb).trans c1
      have Hp := Lib.hid hp
      have C := Lib.hid (fun W => clo_down p.1 (p.2 : Int) W)
      clear c0 c1 e4 hp q2
      by_cases hq : p.1 = 3
      · have HP : Hid (posOf isShield ls = (k : Int)) := posOf_at HZ.out Hp.out (by unfold isShield; simp [hq])
        have C2 : Hid (∀ W, Calls Try.prog 17 #[.agg #[.int .i64 p.1, .int .i64 (p.2 : Int)]] W fun e w' => e = .returned (.bool true) ∧ Below W.heap.size W w') := fun W => (C.out W).mono fun e w' h => ⟨by rw [h.1, hq]; rfl, h.2⟩
        clear hq C
        go_wp2_with (go_at_call 17; refine (C2.out _).mono ?_; rintro e w1 ⟨rfl, hb⟩; have hb := Lib.hid hb)
        go_returns
        exact ⟨by rw [HP.out]; rfl, HB.out.trans (hb.out.mono HB.out.size)⟩
      · have HP : Hid (isShield p = false) := by unfold Hid isShield; simpa using hq
        have C2 : Hid (∀ W, Calls Try.prog 17 #[.agg #[.int .i64 p.1, .int .i64 (p.2 : Int)]] W fun e w' => e = .returned (.bool false) ∧ Below W.heap.size W w') := fun W => (C.out W).mono fun e w' h => ⟨by rw [h.1]; simp [hq], h.2⟩
        clear hq C
        go_wp2_with (go_at_call 17; refine (C2.out _).mono ?_; rintro e w1 ⟨rfl, hb⟩; have hb := Lib.hid hb)
        go_roundw
        case rel => exact ⟨k + 1, by omega, by go_num, (fun j x hj hx => by
          rcases Nat.lt_or_ge j k with h | h
          · exact HZ.out j x h hx
          · obtain rfl : j = k := by omega
            rw [Hp.out] at hx
            cases hx
            exact HP.out), HB.out.trans (hb.out.mono HB.out.size)⟩
        case measure => simp [intOf]; omega
    · obtain rfl : k = n := by omega
      have HP : Hid (posOf isShield ls = -1) := posOf_none (fun j x hj hx => HZ.out j x (by rw [Hn.out]; exact hj) hx)
      go_wp2
      go_returns
      exact ⟨by rw [HP.out]; rfl, HB.out⟩

set_option maxRecDepth 100000 in
theorem has_down (h : LinksIn w v ls) (hl : ls.length ≤ 1000000) : Calls Try.prog 16 #[v, .func (.func 17) #[] #[]] w fun e w' => e = .returned (.bool (ls.any isShield)) ∧ Below w.heap.size w w' := by
  have C := ixf_down h hl
  have hp : Hid (decide (0 ≤ posOf isShield ls) = ls.any isShield) := posOf_any _ _
  have C := Lib.hid C
  clear h hl
  generalize posOf isShield ls = q at *
  generalize ls.any isShield = an at *
  go_enter Try.func16, Try.ntmps16
  go_wp2_with (go_at_call 46; refine C.out.mono ?_; rintro e w1 ⟨rfl, hb⟩; have hb := Lib.hid hb)
  go_returns
  exact ⟨by rw [← hp.out]; rfl, hb.out⟩

set_option maxRecDepth 100000 in
theorem clo_sh (a b : Int) (w : World) : Calls Try.prog 21 #[.agg #[.int .i64 a, .int .i64 b]] w fun e w' => e = .returned (.bool (decide (a = 3))) ∧ Below w.heap.size w w' := by
  have hb := Lib.hid ((Below.refl w.heap.size w).alloc (Nat.le_refl _) (.cells #[.int .i64 a, .int .i64 b] 37))
  go_enter Try.func21, Try.ntmps21
  go_wp2
  go_returns
  exact ⟨rfl, hb.out⟩

set_option maxRecDepth 100000 in
set_option maxHeartbeats 4000000 in
theorem ixf_sh (h : LinksIn w v ls) (hl : ls.length ≤ 1000000) : Calls Try.prog 46 #[v, .func (.func 21) #[] #[]] w fun e w' => e = .returned (.int .i64 (posOf isShield ls)) ∧ Below w.heap.size w w' := by
  have HL := Lib.hid h
  obtain ⟨ad, cap, rfl, hc, hm, _⟩ := h
  obtain ⟨n, hn⟩ : ∃ n, n = ls.length := ⟨_, rfl⟩
  rw [← hn] at HL hl hc ⊢
  have Hn := Lib.hid hn
  clear hn
  go_enter Try.func46, Try.ntmps46
  go_wp2
  go_loopw [8] (fun i wr => ∃ k : Nat, k ≤ n ∧ i = .int .i64 (k : Int) ∧ Hid (∀ (j : Nat) (p : LinkA), j < k → ls[j]? = some p → isShield p = false) ∧ Hid (Below w.heap.size w wr)) (fun i _ => n - (intOf i).toNat)
  case atStart => exact ⟨0, Nat.zero_le _, rfl, (fun j p hj => by omega), Below.refl _ _⟩
  case round =>
    obtain ⟨k, hk, rfl, HZ, HB⟩ := hrel
    by_cases hlt : k < n
    · obtain ⟨p, hp⟩ : ∃ p, ls[k]? = some p := ⟨_, List.getElem?_eq_getElem (by rw [← Hn.out]; exact hlt)⟩
      obtain ⟨ad', cap', e1, _, _, e4⟩ := HL.out
      injection e1 with q1 q2 q3
      subst q1 q3
      obtain ⟨bb, rfl, lb, c0, c1⟩ := e4 k p hp
      have s0 := (HB.out.cell (p := ⟨bb, k * 2, none⟩) lb).trans c0
      have s1 := (HB.out.cell (p := ⟨bb, k * 2 + 1, none⟩) lb).trans c1
      have Hp := Lib.hid hp
      have C := Lib.hid (fun W => clo_sh p.1 (p.2 : Int) W)
      clear c0 c1 e4 hp q2
      by_cases hq : p.1 = 3
      · have HP : Hid (posOf isShield ls = (k : Int)) := posOf_at HZ.out Hp.out (by unfold isShield; simp [hq])
        have C2 : Hid (∀ W, Calls Try.prog 21 #[.agg #[.int .i64 p.1, .int .i64 (p.2 : Int)]] W fun e w' => e = .returned (.bool true) ∧ Below W.heap.size W w') := fun W => (C.out W).mono fun e w' h => ⟨by rw [h.1, hq]; rfl, h.2⟩
        clear hq C
        go_wp2_with (go_at_call 21; refine (C2.out _).mono ?_; rintro e w1 ⟨rfl, hb⟩; have hb := Lib.hid hb)
        go_returns
        exact ⟨by rw [HP.out]; rfl, HB.out.trans (hb.out.mono HB.out.size)⟩
      · have HP : Hid (isShield p = false) := by unfold Hid isShield; simpa using hq
        have C2 : Hid (∀ W, Calls Try.prog 21 #[.agg #[.int .i64 p.1, .int .i64 (p.2 : Int)]] W fun e w' => e = .returned (.bool false) ∧ Below W.heap.size W w') := fun W => (C.out W).mono fun e w' h => ⟨by rw [h.1]; simp [hq], h.2⟩
        clear hq C
        go_wp2_with (go_at_call 21; refine (C2.out _).mono ?_; rintro e w1 ⟨rfl, hb⟩; have hb := Lib.hid hb)
        go_roundw
        case rel => exact ⟨k + 1, by omega, by go_num, (fun j x hj hx => by
          rcases Nat.lt_or_ge j k with h | h
          · exact HZ.out j x h hx
          · obtain rfl : j = k := by omega
            rw [Hp.out] at hx
            cases hx
            exact HP.out), HB.out.trans (hb.out.mono HB.out.size)⟩
        case measure => simp [intOf]; omega
    · obtain rfl : k = n := by omega
      have HP : Hid (posOf isShield ls = -1) := posOf_none (fun j x hj hx => HZ.out j x (by rw [Hn.out]; exact hj) hx)
      go_wp2
      go_returns
      exact ⟨by rw [HP.out]; rfl, HB.out⟩

set_option maxRecDepth 100000 in
theorem has_sh (h : LinksIn w v ls) (hl : ls.length ≤ 1000000) : Calls Try.prog 16 #[v, .func (.func 21) #[] #[]] w fun e w' => e = .returned (.bool (ls.any isShield)) ∧ Below w.heap.size w w' := by
  have C := ixf_sh h hl
  have hp : Hid (decide (0 ≤ posOf isShield ls) = ls.any isShield) := posOf_any _ _
  have C := Lib.hid C
  clear h hl
  generalize posOf isShield ls = q at *
  generalize ls.any isShield = an at *
  go_enter Try.func16, Try.ntmps16
  go_wp2_with (go_at_call 46; refine C.out.mono ?_; rintro e w1 ⟨rfl, hb⟩; have hb := Lib.hid hb)
  go_returns
  exact ⟨by rw [← hp.out]; rfl, hb.out⟩

end
end Go.Proofs.Ytoonkidlbnndcaa
