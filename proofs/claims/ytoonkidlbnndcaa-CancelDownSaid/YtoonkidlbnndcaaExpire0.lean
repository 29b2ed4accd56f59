/-
  (*Grove).Expire: what it leans on.
-/
import Derived.Test.YtoonkidlbnndcaaGEffs
namespace Go.Proofs.Ytoonkidlbnndcaa
set_option linter.unusedVariables false
set_option linter.unusedSimpArgs false
open Go.RowKit

/-- append of all of a slice that somebody owns to a slice that the program owns: longer ones. -/
theorem wpList_extendB {P : Program} {w : World} {ops : Array Oper} {rest : List Oper} {o : Oper} {a : Act} {Q : Exit → Act → World → Prop} (hgd : o.guard = none) (s x : Operand) (t : TypeId)
    (ho : o.op = .call { callee := .builtin .append, args := #[s, x], argTypes := #[t, t] })
    (e : TypeId) (size bytes : Nat) (z : Value) (hinfo : (P.info? e).map (fun i => (i.zero, i.size, i.bytes)) = some (some z, size, bytes)) (hzs : z.cells.size = size) (hsz : 0 < size) (hby : bytes ≤ 64) (ht : P.underlying t = some (.slice e))
    (v : Value) (n : Nat) (xs : List Value) (hs : a.eval s = v) (hown : w.ownsRow 0 e size v n xs)
    (v2 : Value) (m : Nat) (ys : List Value) (hx : a.eval x = v2) (hown2 : w.ownsRow 0 e size v2 m ys) (h1 : ∀ u ∈ ys, u.oneCell' = true) (hn : n + m ≤ 1000000000)
    (h : ∀ v' w', w'.ownsRow 0 e size v' (n + m) (xs ++ ys) → w.grownBy w' v.ownBlock → (v'.ownBlock = v.ownBlock ∨ v'.ownBlock = some w.heap.size) → wpList P ops Q rest (a.put o.dst v') w') :
    wpList P ops Q (o :: rest) a w := by
  obtain ⟨i, hi, hz0, hz1, hz2⟩ := info_parts hinfo
  have hown2' := hown2
  rcases hown2.2 with ⟨rfl, rfl⟩ | ⟨g, cap, cur, rfl, _, hg, hnc, hm, _⟩
  · have hy : ys = [] := List.eq_nil_of_length_eq_zero (by simpa using hown2.1)
    subst hy
    refine wpList_plain hgd fun K hK => ?_
    have hr := run_append_nothing (P := P) (w := w) t o.type e i size ht hi v n xs hown 0
    unfold Oper.wp execOp
    simp only [ho, resolve, invoke, builtin, Sem.run_bind, Sem.run_pure, Result.andThen_ok, List.map_toArray, List.map_cons, List.map_nil, hs, hx, hr]
    exact hK _ _ (h v w (by simpa using hown) (World.grownBy.refl w _) (.inl rfl))
  · refine wpList_append_own_at _ hgd s x t ho 0 e i z size bytes ht hi hz0 hz1 hz2 hzs hsz v n xs hs hown ⟨g, 0, none⟩ m cap ys hx hown2.1 (hown2'.cells (g := g) rfl) h1 (by unfold maxLen; omega) ?_ (Nat.zero_le _) ?_
    · have : (n + m) * bytes ≤ 1000000000 * 64 := Nat.mul_le_mul hn hby
      omega
    · intro v' w1 hown' hgrow _ hat
      exact h v' w1 hown' hgrow hat

section
variable {K K' : Kap} {A : GAt} {G : GroveA} {w w' w2 : World}

theorem eown_ext {v : Value} {es : List EffA} (h : EOwn K w v es) (E : Ext K K' w w') : EOwn K' w' v es :=
  ⟨owns_of h.1 (fun b hb => E.keep b (h.1.lt b hb).2 (h.2 b hb)), fun b hb => (E.old b (h.1.lt b hb).2).trans (h.2 b hb)⟩

theorem blk_ext {q : Nat} {t : TypeId} {cs : Array Value} (h : Blk w q t cs) (hq : K q = none) (E : Ext K K' w w') : Blk w' q t cs ∧ K' q = none :=
  ⟨h.of (E.keep q h.lt hq), (E.old q h.lt).trans hq⟩

/-- Effects are appended to those that are told. -/
structure Told (K : Kap) (A : GAt) (G : GroveA) (w0 w : World) (u : Value) (acc : List EffA) : Prop where
  rep : GRep K A G w
  own : EOwn K w u acc
  fresh : Fresh w0 u

theorem Told.grown {u v6 : Value} {acc es : List EffA} {w0 w5 w6 : World} {K0 : Kap} (R : GRep K A G w5) (hu : EOwn K w5 u acc) (hf : Fresh w0 u) (E : Ext K0 K w0 w5)
    (hown : w6.ownsRow 0 62 5 v6 (acc.length + es.length) (acc.flatMap EffA.cells ++ es.flatMap EffA.cells)) (hg : w5.grownBy w6 u.ownBlock) (hat : v6.ownBlock = u.ownBlock ∨ v6.ownBlock = some w5.heap.size) :
    GRep K A G w6 ∧ EOwn K w6 v6 (acc ++ es) ∧ Fresh w0 v6 ∧ Ext K0 K w0 w6 := by
  have h6 : ∀ b, v6.ownBlock = some b → K b = none ∧ w0.heap.size ≤ b := fun b hb => by
    rcases hat with h | h
    · exact ⟨hu.2 b (h ▸ hb), hf b (h ▸ hb)⟩
    · have hbw : b = w5.heap.size := Option.some.inj (hb.symm.trans h)
      exact ⟨R.gone (by omega), by have := E.size; omega⟩
  refine ⟨R.same hg.size fun b t h => hg.block b (R.lt b t h) (fun e => by rw [hu.2 b e.symm] at h; cases h), ⟨by rw [List.length_append, List.flatMap_append]; exact hown, fun b hb => (h6 b hb).1⟩, fun b hb => (h6 b hb).2, E.grownNew hg (fun b hb => hf b hb)⟩

/-- A block of deadlines is none of effects. -/
theorem due_apart {q : Nat} {cs : Array Value} {u : Value} {acc : List EffA} (h : Blk w q 92 cs) (hu : EOwn K w u acc) : u.ownBlock ≠ some q := fun e => by
  obtain ⟨c, hc⟩ := own_block hu.1 e
  unfold Blk at h
  rw [h] at hc
  injection hc with hc
  injection hc with _ hc
  cases hc

theorem reach_len (I : Inv G.tree) (i : Nat) : (G.tree.reach i).length ≤ 100001 := by
  unfold TreeA.reach
  have := I.fit.below i
  simp
  omega

theorem turn_len : ∀ (es : List EffA) (G : GroveA), Inv G.tree → (G.turn es).2.length ≤ es.length * 100001
  | [], G, _ => by simp [GroveA.turn]
  | e :: es, G, I => by
    unfold GroveA.turn
    split
    · rw [List.length_append, List.length_cons, Nat.add_mul]
      have h1 := turn_len es (G.strikeG true e.n) (by rw [strikeG_tree]; exact I)
      have h2 := strikeE_len G true e.n (G.tree.reach (e.n.toNat - 1))
      have h3 := reach_len I (e.n.toNat - 1)
      omega
    · rw [List.length_cons, List.length_cons, Nat.add_mul]
      have h1 := turn_len es G I
      omega

theorem failG_len (I : InvG G) (n : Int) (f : Flt) : (G.failG n f).2.1.length ≤ 800008 := by
  obtain ⟨_, _, h⟩ := failR_ok (T := G.tree) n f
  have h1 := turn_len (G.tree.failR n f).2.1 (G.on (G.tree.failR n f).1) (I.inv.failR n f)
  have h2 : (G.tree.failR n f).2.1.length * 100001 ≤ 8 * 100001 := Nat.mul_le_mul_right _ h.1
  show ((G.on (G.tree.failR n f).1).turn (G.tree.failR n f).2.1).2.length ≤ _
  omega

theorem throw_any (s : ByteArray) (w : World) : Calls Try.prog 52 #[.string s] w fun e w' => e = .returned (.agg #[.int .i64 1, .string s]) ∧ Below w.heap.size w w' := by
  go_enter Try.func52, Try.ntmps52
  go_wp2
  go_returns
  exact ⟨rfl, by go_grown⟩

end
end Go.Proofs.Ytoonkidlbnndcaa
