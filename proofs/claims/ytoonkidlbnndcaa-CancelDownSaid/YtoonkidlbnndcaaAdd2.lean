/-
  A task more in a scope: (*Tree).add.
-/
import Derived.Test.YtoonkidlbnndcaaAdd
namespace Go.Proofs.Ytoonkidlbnndcaa
set_option linter.unusedVariables false
set_option linter.unusedSimpArgs false
open Go.RowKit

section
variable {κ : Kap} {L : Lay} {T : TreeA} {w : World}

/-- The name of an array g that is the old one or new. -/
theorem Rep.names1 (R : Rep κ L T w) {g : Nat} {tg : Tag} {v : Value} (hv : ∀ x, v.ownBlock = some x → κ x = some tg) (hat : v.ownBlock = some g ∨ w.heap.size ≤ g) {w' : World} (hs : w.heap.size ≤ w'.heap.size) (h2 : g < w'.heap.size) :
    (∀ x t, κ x = some t → (κ.set g tg) x = some t) ∧ (∀ x t, (κ.set g tg) x = some t → x < w'.heap.size) ∧ (κ.set g tg) g = some tg ∧ (∀ x, x < w.heap.size → (κ.set g tg) x = κ x) := by
  refine ⟨fun x t hx => ?_, fun x t hx => ?_, Kap.set_same _ _ _, fun x hx => ?_⟩
  · have hlt := R.lt x t hx
    by_cases e : x = g
    · subst e
      rw [Kap.set_same]
      rcases hat with hat | hat
      · rw [hv _ hat] at hx; exact hx
      · omega
    · rw [Kap.set_other _ _ e]; exact hx
  · by_cases e : x = g
    · subst e; exact h2
    · rw [Kap.set_other _ _ e] at hx
      exact Nat.lt_of_lt_of_le (R.lt x t hx) hs
  · by_cases e : x = g
    · subst e
      rw [Kap.set_same]
      rcases hat with hat | hat
      · exact (hv _ hat).symm
      · omega
    · rw [Kap.set_other _ _ e]

theorem kid_cells (R : Rep κ L T w) {i : Nat} {s : ScopeA} (hs : T.scopes[i]? = some s) {w1 : World} (hg : w.grownBy w1 (L.kv i).ownBlock) : Blk w1 (L.sb i) 113 (L.scells i s) :=
  (R.scope i s hs).grown hg (fun h => by have := R.kkid i s hs _ h; rw [R.kscope i s hs] at this; cases this)

theorem kid_mem (R : Rep κ L T w) {i m : Nat} {s : ScopeA} (hs : T.scopes[i]? = some s) (live : Int)
    {w1 : World} {g cap : Nat} (hg : w.grownBy w1 (L.kv i).ownBlock)
    (hv : w1.ownsRow 0 108 1 (.slice (some ⟨g, 0, none⟩) (s.kids.length + 1) cap) (s.kids.length + 1) (s.kids.map L.tp ++ [L.tp m])) (hat : (L.kv i).ownBlock = some g ∨ w.heap.size ≤ g) :
    ∃ κ', Rep κ' { L with kv := upd L.kv i (.slice (some ⟨g, 0, none⟩) (s.kids.length + 1) cap) } { T with scopes := T.scopes.set i { s with kids := s.kids ++ [m], live := live } }
        ((w1.setCell ⟨L.sb i, 4, none⟩ (.slice (some ⟨g, 0, none⟩) (s.kids.length + 1) cap)).setCell ⟨L.sb i, 5, none⟩ (.int .i64 live)) ∧
      Ext κ κ' w ((w1.setCell ⟨L.sb i, 4, none⟩ (.slice (some ⟨g, 0, none⟩) (s.kids.length + 1) cap)).setCell ⟨L.sb i, 5, none⟩ (.int .i64 live)) := by
  have hB := kid_cells R hs hg
  have hgl : g < w1.heap.size := (hv.lt g rfl).2
  have ks := R.kscope i s hs
  have hne : g ≠ L.sb i := by
    rintro rfl
    rcases hat with hat | hat
    · have := R.kkid i s hs _ hat; rw [ks] at this; cases this
    · have := R.lt _ _ ks; omega
  obtain ⟨n1, n2, n3, n4⟩ := R.names1 (g := g) (tg := .kid i) (v := L.kv i) (R.kkid i s hs) hat
    (w' := (w1.setCell ⟨L.sb i, 4, none⟩ (.slice (some ⟨g, 0, none⟩) (s.kids.length + 1) cap)).setCell ⟨L.sb i, 5, none⟩ (.int .i64 live)) (by have := hg.size; simpa [World.setCell] using this) (by simpa [World.setCell] using hgl)
  refine ⟨κ.set g (.kid i), R.setKid (κ' := κ.set g (.kid i)) (i := i) hs (.slice (some ⟨g, 0, none⟩) (s.kids.length + 1) cap) n1 n2 ?_ ?_ ?_ ?_, ?_⟩
  · have e : Lay.scells { L with kv := upd L.kv i (.slice (some ⟨g, 0, none⟩) (s.kids.length + 1) cap) } i { s with kids := s.kids ++ [m], live := live } =
        ((L.scells i s).setIfInBounds 4 (.slice (some ⟨g, 0, none⟩) (s.kids.length + 1) cap)).setIfInBounds 5 (.int .i64 live) := by
      have h := upd_same L.kv i (.slice (some ⟨g, 0, none⟩) (s.kids.length + 1) cap)
      unfold Lay.scells
      simp only [h]
      rfl
    rw [e]
    exact (hB.set_ 4 _).set_ 5 _
  · refine ownsRow_setCell_other (ownsRow_setCell_other ?_ (by simp [Value.ownBlock, hne]) _) (by simp [Value.ownBlock, hne]) _
    simpa using hv
  · intro x hx
    have : x = g := by simpa [Value.ownBlock] using hx.symm
    subst this
    exact n3
  · intro b t hb h1 h2
    have hlt := R.lt b t hb
    have hbs : b ≠ L.sb i := fun e => by subst e; rw [ks] at hb; cases hb; exact h1 rfl
    rw [Below.heap_setCell _ _ _ _ hbs, Below.heap_setCell _ _ _ _ hbs]
    exact hg.block b hlt (fun e => by have := R.kkid i s hs _ e.symm; rw [hb] at this; cases this; exact h2 rfl)
  · refine Ext.name (κ' := κ) (Ext.setCell (Ext.setCell ?_ (by rw [ks]; simp) _) (by rw [ks]; simp) _) n4
    exact (Ext.refl κ w).grown hg (fun b hb => by rw [R.kkid i s hs b hb]; simp)

/-- What holds behind the first append, and what will hold behind the second. -/
theorem add_mid (R : Rep κ L T w) (hown : ∀ (i : Nat) (s : ScopeA), T.scopes[i]? = some s → s.owner ≤ T.tasks.length) (hkid : ∀ (i : Nat) (s : ScopeA), T.scopes[i]? = some s → ∀ n ∈ s.kids, n ≤ T.tasks.length)
    {i : Nat} {s : ScopeA} (hs : T.scopes[i]? = some s)
    {w1 : World} {g cap : Nat} (hg : (w.alloc (.cells (newTask L T.tasks.length (i + 1)) 111)).grownBy w1 L.ts.ownBlock)
    (hv : w1.ownsRow 0 108 1 (.slice (some ⟨g, 0, none⟩) (T.tasks.length + 1) cap) (T.tasks.length + 1) (((List.range T.tasks.length).map fun i => .pointer (some ⟨L.tb i, 0, none⟩)) ++ [.pointer (some ⟨w.heap.size, 0, none⟩)]))
    (hat : L.ts.ownBlock = some g ∨ w.heap.size + 1 ≤ g) :
    w1.cell? ⟨L.t, 0, none⟩ = some L.ts ∧ w1.frozen? ⟨L.t, 0, none⟩ = false ∧
    w1.cell? ⟨L.sb i, 4, none⟩ = some (L.kv i) ∧ L.sb i < w.heap.size ∧
    Hid ((w1.setCell ⟨L.t, 0, none⟩ (.slice (some ⟨g, 0, none⟩) (T.tasks.length + 1) cap)).ownsRow 0 108 1 (L.kv i) s.kids.length (s.kids.map L.tp)) ∧
    Hid (∀ {w2 : World} {g2 cap2 : Nat}, (w1.setCell ⟨L.t, 0, none⟩ (.slice (some ⟨g, 0, none⟩) (T.tasks.length + 1) cap)).grownBy w2 (L.kv i).ownBlock →
      w2.cell? ⟨L.sb i, 4, none⟩ = some (L.kv i) ∧ w2.frozen? ⟨L.sb i, 4, none⟩ = false ∧ w2.cell? ⟨L.sb i, 5, none⟩ = some (.int .i64 s.live) ∧ w2.frozen? ⟨L.sb i, 5, none⟩ = false ∧
      w2.cell? ⟨w.heap.size, 0, none⟩ = some (.int .i64 ((T.tasks.length : Int) + 1)) ∧
      Hid (w2.ownsRow 0 108 1 (.slice (some ⟨g2, 0, none⟩) (s.kids.length + 1) cap2) (s.kids.length + 1) (s.kids.map L.tp ++ [.pointer (some ⟨w.heap.size, 0, none⟩)]) →
        ((L.kv i).ownBlock = some g2 ∨ w1.heap.size ≤ g2) →
        ∃ κ' L', L'.t = L.t ∧ Rep κ' L' { T with tasks := T.tasks ++ [.new (i + 1)], scopes := T.scopes.set i { s with kids := s.kids ++ [T.tasks.length + 1], live := s.live + 1 } }
            ((w2.setCell ⟨L.sb i, 4, none⟩ (.slice (some ⟨g2, 0, none⟩) (s.kids.length + 1) cap2)).setCell ⟨L.sb i, 5, none⟩ (.int .i64 (s.live + 1))) ∧
          Ext κ κ' w ((w2.setCell ⟨L.sb i, 4, none⟩ (.slice (some ⟨g2, 0, none⟩) (s.kids.length + 1) cap2)).setCell ⟨L.sb i, 5, none⟩ (.int .i64 (s.live + 1))))) := by
  obtain ⟨k0, k1, k2, hB, hN⟩ := add_cells R (i + 1) hg
  obtain ⟨κ1, R1, E1⟩ := add_mem R (i + 1) hown hkid hg hv hat
  have hS : Blk w1 (L.sb i) 113 (L.scells i s) := ((R.scope i s hs).alloc _).grown hg (fun h => by have := R.kts _ h; rw [R.kscope i s hs] at this; cases this)
  have hsz : (w1.setCell ⟨L.t, 0, none⟩ (.slice (some ⟨g, 0, none⟩) (T.tasks.length + 1) cap)).heap.size = w1.heap.size := by simp [World.setCell]
  have hlt : w.heap.size < w1.heap.size := hN.lt
  have htp : ∀ n, n ≤ T.tasks.length → Lay.tp (L.more T.tasks.length w.heap.size (.slice (some ⟨g, 0, none⟩) (T.tasks.length + 1) cap)) n = L.tp n := fun n hn => by
    unfold Lay.tp Lay.more
    by_cases e : n = 0
    · simp [e]
    · simp only [e, if_false]
      rw [upd_other _ _ (by omega)]
  have hkids : s.kids.map (Lay.tp (L.more T.tasks.length w.heap.size (.slice (some ⟨g, 0, none⟩) (T.tasks.length + 1) cap))) = s.kids.map L.tp := List.map_congr_left fun n hn => htp n (hkid i s hs n hn)
  have hnew : Lay.tp (L.more T.tasks.length w.heap.size (.slice (some ⟨g, 0, none⟩) (T.tasks.length + 1) cap)) (T.tasks.length + 1) = .pointer (some ⟨w.heap.size, 0, none⟩) := by
    unfold Lay.tp Lay.more
    simp [upd_same]
  have R1k := R1.kid i s hs
  rw [hkids] at R1k
  have R1b := R1.ktask T.tasks.length (.new (i + 1)) (by simp)
  have hbw : Lay.tb (L.more T.tasks.length w.heap.size (.slice (some ⟨g, 0, none⟩) (T.tasks.length + 1) cap)) T.tasks.length = w.heap.size := upd_same _ _ _
  rw [hbw] at R1b
  refine ⟨k0, k1, hS.cell 4 rfl, (R.scope i s hs).lt, R1k, fun {w2 g2 cap2} hg2 => ?_⟩
  have hS2 := kid_cells R1 (i := i) hs hg2
  have hN2 : Blk w2 w.heap.size 111 (newTask L T.tasks.length (i + 1)) := (hN.far (p := ⟨L.t, 0, none⟩) (fun (e : w.heap.size = L.t) => by have := R.tree.lt; omega) _).grown hg2
    (fun h => by have := R1.kkid i s hs _ h; rw [R1b] at this; cases this)
  refine ⟨hS2.cell 4 rfl, hS2.frozen 4, hS2.cell 5 rfl, hS2.frozen 5, hN2.cell 0 rfl, fun hv2 hat2 => ?_⟩
  obtain ⟨κ2, R2, E2⟩ := kid_mem R1 (i := i) (m := T.tasks.length + 1) hs (s.live + 1) hg2 (by rw [hkids, hnew]; exact hv2) (by rw [hsz]; exact hat2)
  refine ⟨κ2, _, ?_, R2, E1.trans E2⟩
  rfl

theorem add_scope (R : Rep κ L T w) (hown : ∀ (i : Nat) (s : ScopeA), T.scopes[i]? = some s → s.owner ≤ T.tasks.length) (hkid : ∀ (i : Nat) (s : ScopeA), T.scopes[i]? = some s → ∀ n ∈ s.kids, n ≤ T.tasks.length) (hn : T.tasks.length ≤ 1000)
    {i : Nat} {s : ScopeA} (hs : T.scopes[i]? = some s) (hk : s.kids.length ≤ 1000) (hl0 : 0 ≤ s.live) (hl1 : s.live ≤ 1000) :
    Calls Try.prog 76 #[.pointer (some ⟨L.t, 0, none⟩), .pointer (some ⟨L.sb i, 0, none⟩)] w fun e w' => e = .returned (.int .i64 ((T.tasks.length : Int) + 1)) ∧
      ∃ κ' L', L'.t = L.t ∧ Rep κ' L' { T with tasks := T.tasks ++ [.new (i + 1)], scopes := T.scopes.set i { s with kids := s.kids ++ [T.tasks.length + 1], live := s.live + 1 } } w' ∧ Ext κ κ' w w' := by
  obtain ⟨c0, c1⟩ := R.treecells
  have hlt := R.tree.lt
  have hts := R.ts
  obtain ⟨ad, cap, hv, hcap, hm⟩ := owns_len R.ts
  obtain ⟨ad2, cap2, hv2, hcap2, hm2⟩ := owns_len (R.kid i s hs)
  have MID : Hid (∀ {w1 : World} {g cap : Nat}, (w.alloc (.cells (newTask L T.tasks.length (i + 1)) 111)).grownBy w1 L.ts.ownBlock → _ → _ → _) := fun {w1 g cap} => add_mid R hown hkid hs (w1 := w1) (g := g) (cap := cap)
  rw [hv] at c0 hts MID
  rw [hv2] at MID
  unfold newTask at MID
  rw [Lay.sp_succ] at MID
  have HT := Lib.hid hts
  have hklen : s.kids.length ≤ 1000 := hk
  generalize hn' : T.tasks.length = n at *
  generalize s.kids.length = kl at *
  clear R hts hv hown hkid hn' hs hv2 hk
  go_enter Try.func76, Try.ntmps76
  go_wp2_with (first | (at_builtin; refine wpList_push rfl (.tmp 19) (.tmp 21) 104 rfl 108 1 8 _ Try.infoTaskP rfl (by omega) (by omega) Try.underlying104 (.slice ad n cap) n _ rfl (HT.out.alloc _) _ _ rfl (by simp) rfl (one_ptr _) (by omega) ?_; intro g cap' w1 hown' hgrow hat; obtain ⟨k0, k1, k4, _, K, K2⟩ := MID.out hgrow hown' (by simpa using hat)) | (at_builtin; refine wpList_push rfl (.tmp 31) (.tmp 33) 104 rfl 108 1 8 _ Try.infoTaskP rfl (by omega) (by omega) Try.underlying104 (.slice ad2 kl cap2) kl _ rfl K.out _ _ rfl (by simp) rfl (one_ptr _) (by omega) ?_; intro g2 cap3 w2 hown2 hgrow2 hat2; obtain ⟨j4, j4', j5, j5', j0, FIN⟩ := K2.out (g2 := g2) (cap2 := cap3) hgrow2))
  go_ret
  exact ⟨rfl, FIN.out hown2 (by simpa [World.setCell] using hat2)⟩

end
end Go.Proofs.Ytoonkidlbnndcaa
