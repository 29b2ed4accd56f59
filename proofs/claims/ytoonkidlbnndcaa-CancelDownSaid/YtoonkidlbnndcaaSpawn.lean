/-
  A task more in the innermost scope: (*Tree).Spawn.
-/
import Derived.Test.YtoonkidlbnndcaaBack
import Derived.Shelf.Abstract
import Derived.Shelf.RegionOpen
namespace Go.Proofs.Ytoonkidlbnndcaa
set_option linter.unusedVariables false
set_option linter.unusedSimpArgs false
open Go.RowKit Go.Shelf

attribute [local go_sem] Oper.semAt_some

section
variable {κ κ' : Kap} {L : Lay} {T : TreeA} {w w' : World}

theorem spawn_nil (n : Int) (w : World) : Calls Try.prog 62 #[.pointer none, .int .i64 n] w fun e w' => e = .returned (.tuple #[.int .i64 0, .int .i64 2]) ∧ Below w.heap.size w w' := by
  go_enter Try.func62, Try.ntmps62
  go_wp2_with (go_at_call 77; refine (acts_nil _ _).mono ?_; rintro e w' ⟨rfl, rfl⟩)
  go_returns
  exact ⟨rfl, by go_grown⟩
theorem spawn_none (R : Rep κ L T w) {n : Int} (h : T.run? n = none) :
    Calls Try.prog 62 #[.pointer (some ⟨L.t, 0, none⟩), .int .i64 n] w fun e w' => e = .returned (.tuple #[.int .i64 0, .int .i64 6]) ∧ Below w.heap.size w w' := by
  have C : Hid (∀ o o1 o2, _) := fun o o1 o2 => acts_none (((R.alloc o).alloc o1).alloc o2) h
  clear R h
  go_enter Try.func62, Try.ntmps62
  go_wp2_with (go_at_call 77; refine (C.out _ _ _).mono ?_; rintro e w' ⟨rfl, rfl⟩)
  go_returns
  exact ⟨rfl, by go_grown⟩
theorem spawn_leaving (R : Rep κ L T w) {n : Int} {i : Nat} {x : TaskA} (h : T.run? n = some i) (hx : T.tasks[i]? = some x) (hl : x.leaving = true) :
    Calls Try.prog 62 #[.pointer (some ⟨L.t, 0, none⟩), .int .i64 n] w fun e w' => e = .returned (.tuple #[.int .i64 0, .int .i64 22]) ∧ Below w.heap.size w w' := by
  have C : Hid (∀ o o1 o2, _) := fun o o1 o2 => acts_leaving (((R.alloc o).alloc o1).alloc o2) h hx hl
  clear R h hx hl
  go_enter Try.func62, Try.ntmps62
  go_wp2_with (go_at_call 77; refine (C.out _ _ _).mono ?_; rintro e w' ⟨rfl, rfl⟩)
  go_returns
  exact ⟨rfl, by go_grown⟩

/-- A block that is no row of cells has turned. -/
theorem Rep.noncells (R : Rep κ L T w) (hs : w.heap.size ≤ w'.heap.size) (h : ∀ (b : Nat) (c : Array Value) (e : TypeId), w.heap[b]? = some (Obj.cells c e (0, 0)) → w'.heap[b]? = w.heap[b]?) : Rep κ L T w' := by
  have ho : ∀ {e size n : Nat} {v : Value} {xs : List Value}, w.ownsRow 0 e size v n xs → w'.ownsRow 0 e size v n xs := fun {e size n v xs} hv => owns_of hv fun b hb => by
    rcases hv.2 with ⟨rfl, _⟩ | ⟨g, cap, cur, rfl, _, hg, _⟩
    · cases hb
    · have : g = b := by simpa [Value.ownBlock] using hb
      subst this
      exact h _ _ _ hg
  exact {
    lt := fun b g hb => Nat.lt_of_lt_of_le (R.lt b g hb) hs
    tree := R.tree.of (h _ _ _ R.tree)
    ktree := R.ktree
    ts := ho R.ts
    kts := R.kts
    ss := ho R.ss
    kss := R.kss
    task := fun i x hx => (R.task i x hx).of (h _ _ _ (R.task i x hx))
    ktask := R.ktask
    scope := fun i x hx => (R.scope i x hx).of (h _ _ _ (R.scope i x hx))
    kscope := R.kscope
    opn := fun i x hx => ho (R.opn i x hx)
    kopn := R.kopn
    kid := fun i x hx => ho (R.kid i x hx)
    kkid := R.kkid }

theorem Rep.turned {row : Option Nat} (R : Rep κ L T w) (hg : w.grownBy w' row) (hr : ∀ r, row = some r → ∃ o : Obj, w.heap[r]? = some o ∧ o.isCells = false) : Rep κ L T w' :=
  R.noncells hg.size fun b c e hb => hg.block b (Array.getElem?_eq_some_iff.1 hb).1 fun e' => by
    obtain ⟨o, ho, hc⟩ := hr b e'.symm
    rw [hb] at ho
    cases ho
    cases hc

theorem KeepsFrom.of_ext {B : Nat} {W W' : World} (E : Ext κ κ' W W') (hk : ∀ b, B ≤ b → κ b = none) : KeepsFrom B W W' :=
  ⟨E.size, fun k o hB hk' _ => (E.keep k (Array.getElem?_eq_some_iff.1 hk').1 (hk k hB)).trans hk'⟩

/-- The innermost scope among links (0: there is none). -/
def innerN (ns : List Nat) : Nat := (ns.reverse.find? (· != 0)).getD 0

theorem innerN_zero {ns : List Nat} (h : ∀ p ∈ backTo ns ns.length, p.2 = 0) : innerN ns = 0 := by
  unfold innerN
  rw [List.find?_eq_none.2]
  · rfl
  · intro x hx
    obtain ⟨j, hj, rfl⟩ := List.getElem_of_mem (List.mem_reverse.1 hx)
    have := h (ns.length - 1 - (ns.length - 1 - j), ns[ns.length - 1 - (ns.length - 1 - j)]?.getD 0) (by
      unfold backTo
      rw [List.mem_map]
      exact ⟨ns.length - 1 - j, by simp; omega, rfl⟩)
    have e : ns.length - 1 - (ns.length - 1 - j) = j := by omega
    simp only [e, List.getElem?_eq_getElem hj, Option.getD_some] at this
    simp [this]

theorem innerN_at {ns : List Nat} {k : Nat} (hk : k < ns.length) (h : ∀ p ∈ backTo ns k, p.2 = 0) (h0 : ns[ns.length - 1 - k]?.getD 0 ≠ 0) : innerN ns = ns[ns.length - 1 - k]?.getD 0 := by
  unfold innerN
  have hl : ns.length - 1 - k < ns.length := by omega
  rw [List.getElem?_eq_getElem hl, Option.getD_some] at h0 ⊢
  have : ns.reverse.find? (· != 0) = some ns[ns.length - 1 - k] := by
    rw [List.find?_eq_some_iff_getElem]
    refine ⟨by simpa using h0, k, by simpa using hk, by rw [List.getElem_reverse], fun j hj => ?_⟩
    have := h (ns.length - 1 - j, ns[ns.length - 1 - j]?.getD 0) (by
      unfold backTo
      rw [List.mem_map]
      exact ⟨j, by simpa using hj, rfl⟩)
    simp only [List.getElem?_eq_getElem (show ns.length - 1 - j < ns.length by omega), Option.getD_some] at this
    rw [List.getElem_reverse]
    simp [this]
  rw [this]
  rfl

def TreeA.spawnAt (T : TreeA) (j : Nat) : TreeA :=
  if 64 ≤ T.tasks.length then T else { tasks := T.tasks ++ [.new (j + 1)], scopes := T.scopes.modify j fun s => { s with kids := s.kids ++ [T.tasks.length + 1], live := s.live + 1 } }

def SpawnEnd (κ : Kap) (L : Lay) (T : TreeA) (w : World) (s : Nat) (W : World) : Prop :=
  W.cell? ⟨w.heap.size + 1, 0, none⟩ = some (.int .i64 (if 64 ≤ T.tasks.length then 0 else (T.tasks.length : Int) + 1)) ∧
  W.cell? ⟨w.heap.size + 1 + 1, 0, none⟩ = some (.int .i64 (if 64 ≤ T.tasks.length then 5 else 0)) ∧
  ∃ κ' L', L'.t = L.t ∧ Rep κ' L' (T.spawnAt (s - 1)) W ∧ Ext κ κ' w W

def SpawnPost (κ : Kap) (L : Lay) (T : TreeA) (w : World) (x : TaskA) (e : Ending) (w' : World) : Prop :=
  (innerN x.opn = 0 ∧ e = .returned (.tuple #[.int .i64 0, .int .i64 22]) ∧ Below w.heap.size w w') ∨
  (innerN x.opn ≠ 0 ∧ e = .returned (.tuple #[.int .i64 (if 64 ≤ T.tasks.length then 0 else (T.tasks.length : Int) + 1), .int .i64 (if 64 ≤ T.tasks.length then 5 else 0)]) ∧
    ∃ κ' L', L'.t = L.t ∧ Rep κ' L' (T.spawnAt (innerN x.opn - 1)) w' ∧ Ext κ κ' w w')

set_option maxRecDepth 100000 in
set_option maxHeartbeats 2000000 in
theorem spawn_any (R : Rep κ L T w) {n : Int} {i : Nat} {x : TaskA} (h : T.run? n = some i) (hx : T.tasks[i]? = some x) (hl : x.leaving = false) (hlen : x.opn.length ≤ 1000) (hle : ∀ m ∈ x.opn, m ≤ T.scopes.length)
    (hown : ∀ (i : Nat) (s : ScopeA), T.scopes[i]? = some s → s.owner ≤ T.tasks.length) (hkid : ∀ (i : Nat) (s : ScopeA), T.scopes[i]? = some s → (∀ n ∈ s.kids, n ≤ T.tasks.length) ∧ s.kids.length ≤ 1000 ∧ 0 ≤ s.live ∧ s.live ≤ 1000) :
    Calls Try.prog 62 #[.pointer (some ⟨L.t, 0, none⟩), .int .i64 n] w (SpawnPost κ L T w x) := by
  have C : Hid (∀ o o1 o2, _) := fun o o1 o2 => acts_some (((R.alloc o).alloc o1).alloc o2) h hx hl
  have d2 := (R.tcells hx).2.2.1
  have lx := (R.task i x hx).lt
  have c0 := R.treecells.1
  have lt0 := R.tree.lt
  obtain ⟨ad1, cap1, hv1, _, _⟩ := owns_len R.ts
  rw [hv1] at c0
  have A : Hid (∀ W s, s ≠ 0 → s ≤ T.scopes.length → T.tasks.length < 64 → Below w.heap.size w W → Calls Try.prog 76 #[.pointer (some ⟨L.t, 0, none⟩), .pointer (some ⟨L.sb (s - 1), 0, none⟩)] W fun e w' =>
      e = .returned (.int .i64 ((T.tasks.length : Int) + 1)) ∧ ∃ κ' L', L'.t = L.t ∧ Rep κ' L' (T.spawnAt (s - 1)) w' ∧ Ext κ κ' W w') := fun W s h0 h1 h2 hW => by
    have hs : T.scopes[s - 1]? = some (T.scopes[s - 1]'(by omega)) := List.getElem?_eq_getElem (by omega)
    obtain ⟨q1, q2, q3, q4⟩ := hkid _ _ hs
    have := add_scope (R.below hW) hown (fun i s h => (hkid i s h).1) (by omega) hs q2 q3 q4
    have e : T.spawnAt (s - 1) = { T with tasks := T.tasks ++ [.new (s - 1 + 1)], scopes := T.scopes.set (s - 1) { T.scopes[s - 1]'(by omega) with kids := (T.scopes[s - 1]'(by omega)).kids ++ [T.tasks.length + 1], live := (T.scopes[s - 1]'(by omega)).live + 1 } } := by
      unfold TreeA.spawnAt
      rw [if_neg (by omega), modify_set hs]
    rw [e]
    exact this
  have HR := Lib.hid R
  have Hkn : Hid (∀ b, w.heap.size ≤ b → κ b = none) := fun b hb => R.new_none hb
  obtain ⟨ad, cap, hv, _, _⟩ := owns_len (R.opn i x hx)
  have hrow := Row.of_owns (R.opn i x hx)
  rw [hv] at d2 hrow
  have hlens := hlen
  refine (callsIn_wide (n := 4)).1 ?_
  refine callsIn_of_wp_marks Try.func62 rfl trivial ?_ rfl
  simp only [Try.ntmps62, List.size_toArray, List.length_cons, List.length_nil, Nat.reduceAdd, Nat.reduceSub, Array.replicate_succ, Array.replicate_zero, List.push_toArray, List.append_toArray, List.nil_append, List.cons_append]
  have hb0 : Below w.heap.size w ((((w.alloc (.cells #[.pointer (some ⟨L.t, 0, none⟩)] 81)).alloc (.cells #[.int .i64 0] 3)).alloc (.cells #[.int .i64 0] 33)).alloc (.cells #[.slice ad x.opn.length cap] 105)) :=
    ((((Below.refl _ _).alloc (Nat.le_refl _) _).alloc (by simp) _).alloc (by simp; omega) _).alloc (by simp; omega) _
  have hrow0 := hrow.below hb0
  have HB0 := Lib.hid hb0
  have HL := Lib.hid hle
  have lx1 : L.tb i < w.heap.size + 1 := by omega
  have lx2 : L.tb i < w.heap.size + 1 + 1 := by omega
  have Hh := Lib.hid hlens
  clear R h hl hx hv hv1 hrow hb0 hle hown hkid hlen hlens
  have bT0 := Blk.new w 81 #[.pointer (some ⟨L.t, 0, none⟩)]
  have bT : Blk ((((w.alloc (.cells #[.pointer (some ⟨L.t, 0, none⟩)] 81)).alloc (.cells #[.int .i64 0] 3)).alloc (.cells #[.int .i64 0] 33)).alloc (.cells #[.slice ad x.opn.length cap] 105)) w.heap.size 81 #[.pointer (some ⟨L.t, 0, none⟩)] := ((bT0.alloc _).alloc _).alloc _
  have b1 : Blk ((((w.alloc (.cells #[.pointer (some ⟨L.t, 0, none⟩)] 81)).alloc (.cells #[.int .i64 0] 3)).alloc (.cells #[.int .i64 0] 33)).alloc (.cells #[.slice ad x.opn.length cap] 105)) (w.heap.size + 1) 3 #[.int .i64 0] := by
    have := Blk.new (w.alloc (.cells #[.pointer (some ⟨L.t, 0, none⟩)] 81)) 3 #[.int .i64 0]
    rw [World.size_alloc] at this
    exact (this.alloc _).alloc _
  have b2 : Blk ((((w.alloc (.cells #[.pointer (some ⟨L.t, 0, none⟩)] 81)).alloc (.cells #[.int .i64 0] 3)).alloc (.cells #[.int .i64 0] 33)).alloc (.cells #[.slice ad x.opn.length cap] 105)) (w.heap.size + 1 + 1) 33 #[.int .i64 0] := by
    have := Blk.new ((w.alloc (.cells #[.pointer (some ⟨L.t, 0, none⟩)] 81)).alloc (.cells #[.int .i64 0] 3)) 33 #[.int .i64 0]
    rw [World.size_alloc, World.size_alloc] at this
    exact this.alloc _
  have b3 : Blk ((((w.alloc (.cells #[.pointer (some ⟨L.t, 0, none⟩)] 81)).alloc (.cells #[.int .i64 0] 3)).alloc (.cells #[.int .i64 0] 33)).alloc (.cells #[.slice ad x.opn.length cap] 105)) (w.heap.size + 1 + 1 + 1) 105 #[.slice ad x.opn.length cap] := by
    have := Blk.new (((w.alloc (.cells #[.pointer (some ⟨L.t, 0, none⟩)] 81)).alloc (.cells #[.int .i64 0] 3)).alloc (.cells #[.int .i64 0] 33)) 105 #[.slice ad x.opn.length cap]
    rw [World.size_alloc, World.size_alloc, World.size_alloc] at this
    exact this
  have BT := Lib.hid bT
  have B1 := Lib.hid b1
  have B2 := Lib.hid b2
  have B3 := Lib.hid b3
  have HROW := Lib.hid hrow0
  have hsz0 : Hid (((((w.alloc (.cells #[.pointer (some ⟨L.t, 0, none⟩)] 81)).alloc (.cells #[.int .i64 0] 3)).alloc (.cells #[.int .i64 0] 33)).alloc (.cells #[.slice ad x.opn.length cap] 105)).heap.size = w.heap.size + 4) := by simp [Hid]
  clear bT0 bT b1 b2 b3 hrow0
  gi_wp2_with (first | (refine ⟨trivial, ?_⟩; gi_at_call 77; refine (callsIn_wide.2 (C.out _ _ _)).mono ?_; rintro e w' ⟨rfl, rfl⟩) | (refine ⟨trivial, ?_⟩; gi_at_call 75; refine (back_in _ _ _ ⟨ad, x.opn.length, cap, rfl⟩).mono ?_; rintro e w' ⟨rfl, rfl⟩))
  generalize ((((w.alloc (.cells #[.pointer (some ⟨L.t, 0, none⟩)] 81)).alloc (.cells #[.int .i64 0] 3)).alloc (.cells #[.int .i64 0] 33)).alloc (.cells #[.slice ad x.opn.length cap] 105)) = W0 at BT B1 B2 B3 HROW hsz0 HB0 ⊢
  have hle0 : w.heap.size + 4 ≤ W0.heap.size := by rw [hsz0.out]; exact Nat.le_refl _
  have hrow : (∃ ad' c, Value.slice ad x.opn.length cap = .slice ad' 0 c ∧ x.opn = []) ∨ ∃ b o cap', Value.slice ad x.opn.length cap = .slice (some ⟨b, o, none⟩) x.opn.length cap' ∧ x.opn.length ≤ cap' ∧ b < W0.heap.size ∧ ∀ j, j < x.opn.length → W0.cell? ⟨b, o + j, none⟩ = (x.opn.map L.sp)[j]? := by
    rcases HROW.out with ⟨ad', c, h1, h2, h3⟩ | ⟨b, o, cap', h1, h2, h3, h4, h5⟩
    · exact .inl ⟨ad', c, h1, by simpa using h3⟩
    · simp only [List.length_map] at h1 h2 h5
      exact .inr ⟨b, o, cap', h1, h2, h4, h5⟩
  refine wpIn_rangeFunc_ownG rfl (by omega) (gf := 89) (lb := #[.pointer (some ⟨w.heap.size + 1 + 1 + 1, 0, none⟩)]) rfl trivial (enters_of Try.func89 (by kernel_rfl) rfl)
    (back_stops L (4 - 1) (by omega) (w.heap.size + 1 + 1 + 1) W0.heap.size (.slice ad x.opn.length cap) x.opn T.scopes.length HL.out (by have := Hh.out; omega) W0 (Nat.le_refl _) (by omega) (B3.out.cell 0 rfl) hrow)
    belowK_t (belowK_b (Nat.le_refl _)) (Below.refl _ _) (fun _ => rfl)
    (fun pre W => (∀ p ∈ pre, p.1.2 = 0) ∧ Below W0.heap.size W0 W)
    (fun c pre W => c = .ret ∧ ∃ ini last, pre = ini ++ [last] ∧ (∀ p ∈ ini, p.1.2 = 0) ∧ last.1.2 ≠ 0 ∧ SpawnEnd κ L T w last.1.2 W)
    ?hI ?hIx ⟨fun _ h => by simp at h, Below.refl _ _⟩
    (fun y => { tmps := #[.pointer (some ⟨L.t, 0, none⟩), .int .i64 n, .pointer (some ⟨w.heap.size, 0, none⟩), undef, .pointer (some ⟨w.heap.size + 1, 0, none⟩), .pointer (some ⟨w.heap.size + 1 + 1, 0, none⟩),
          .pointer (some ⟨L.tb i, 0, none⟩), .int .i64 0, undef, L.sp y.1.2, .tuple #[.pointer (some ⟨L.tb i, 0, none⟩), .int .i64 0], .pointer (some ⟨L.t, 0, none⟩), .int .i64 n, .tuple #[.pointer (some ⟨L.tb i, 0, none⟩), .int .i64 0],
          .pointer (some ⟨L.tb i, 0, none⟩), .int .i64 0, .int .i64 0, .bool false, undef, .pointer (some ⟨L.tb i, 0, none⟩), .pointer (some ⟨L.tb i, 0, none⟩), .pointer (some ⟨L.tb i, 2, none⟩), .slice ad x.opn.length cap,
          .func (.func 89) #[] #[.pointer (some ⟨w.heap.size + 1 + 1 + 1, 0, none⟩)], .int .i64 (y.1.1 : Int), L.sp y.1.2, undef, undef, undef, undef, undef, undef, undef, undef, undef, undef, undef], defers := [] }) ?assign ?body ?done ?stop
  case hI => exact OwnFrom.and (fun s A B row hs hg hr => hs) (ownFrom_below (Nat.le_refl _) (Nat.le_refl _))
  case hIx =>
    rintro c s A B row ⟨h1, ini, last, h2, h3, h4, h5, h6, κ', L', h7, h8, h9⟩ hg hr
    exact ⟨h1, ini, last, h2, h3, h4, cell_kept h5 hg (fun r e => (hr r e).2), cell_kept h6 hg (fun r e => (hr r e).2), κ', L', h7, h8.turned hg (fun r e => (hr r e).2),
      h9.grownNew hg (fun r e => by have := (hr r e).1; omega)⟩
  case assign =>
    rintro l ⟨⟨y1, y2⟩, hy⟩ W K hK
    unfold encB
    gi_wp2
    exact hK
  case body =>
    rintro l pre ⟨⟨k, s⟩, hs⟩ W ⟨hp, hB⟩ hlen
    simp only [] at hs ⊢
    have hBw : Below w.heap.size w W := HB0.out.trans (hB.mono (by omega))
    have c0' := (hBw.cell (p := ⟨L.t, 0, none⟩) lt0).trans c0
    have bt := (hB.cell (p := ⟨w.heap.size, 0, none⟩) (show w.heap.size < W0.heap.size by omega)).trans (BT.out.cell 0 rfl)
    have bc1 := (hB.cell (p := ⟨w.heap.size + 1, 0, none⟩) (show w.heap.size + 1 < W0.heap.size by omega)).trans (B1.out.cell 0 rfl)
    have bf1 := (hB.frozen (p := ⟨w.heap.size + 1, 0, none⟩) (show w.heap.size + 1 < W0.heap.size by omega)).trans (B1.out.frozen 0)
    have bc2 := (hB.cell (p := ⟨w.heap.size + 1 + 1, 0, none⟩) (show w.heap.size + 1 + 1 < W0.heap.size by omega)).trans (B2.out.cell 0 rfl)
    have bf2 := (hB.frozen (p := ⟨w.heap.size + 1 + 1, 0, none⟩) (show w.heap.size + 1 + 1 < W0.heap.size by omega)).trans (B2.out.frozen 0)
    have Hp := Lib.hid hp
    have HBB := Lib.hid hB
    have hleW : W0.heap.size ≤ W.heap.size := hB.size
    clear hp hB
    by_cases h0 : s = 0
    · subst h0
      rw [Lay.sp_zero]
      gi_wp2
      exact ⟨KeepsFrom.refl _ _, Below.refl _ _, fun p hp' => (List.mem_append.1 hp').elim (Hp.out p) (fun e => by simp at e; subst e; rfl), HBB.out⟩
    · have hsp : L.sp s = .pointer (some ⟨L.sb (s - 1), 0, none⟩) := by simp [Lay.sp, h0]
      rw [hsp]
      have H0 := Lib.hid h0
      have hne12 : w.heap.size + 1 ≠ w.heap.size + 1 + 1 := by omega
      clear hsp h0
      by_cases hfull : 64 ≤ T.tasks.length
      · gi_wp2
        refine ⟨?_, rfl, pre, _, rfl, Hp.out, H0.out, ?_⟩
        · exact ((KeepsFrom.refl _ W).trans ((KeepsOthers.setCell _ _ _).from _)).trans ((KeepsOthers.setCell _ _ _).from _)
        · refine ⟨?_, ?_, κ, L, rfl, ?_, ?_⟩
          · rw [if_pos hfull]; go_simp
          · rw [if_pos hfull]; go_simp
          · unfold TreeA.spawnAt
            rw [if_pos hfull]
            exact ((HR.out.below hBw).far (Hkn.out _ (show w.heap.size ≤ w.heap.size + 1 by omega)) _).far (Hkn.out _ (show w.heap.size ≤ w.heap.size + 1 + 1 by omega)) _
          · exact ((Ext.of_below hBw).setNew (show w.heap.size ≤ w.heap.size + 1 by omega) _).setNew (show w.heap.size ≤ w.heap.size + 1 + 1 by omega) _
      · have hA := A.out W s H0.out hs (by omega) hBw
        have HA := Lib.hid hA
        clear hA
        gi_wp2_with (refine ⟨trivial, ?_⟩; gi_at_call 76; refine (CallsIn.inRound l (callsIn_wide.2 HA.out)).mono ?_; rintro e W2 ⟨rfl, κ', L', ht, R2, E2⟩; have bc1' := (E2.cell (p := ⟨w.heap.size + 1, 0, none⟩) (Hkn.out _ (show w.heap.size ≤ w.heap.size + 1 by omega)) (show w.heap.size + 1 < W.heap.size by omega)).trans bc1; have bf1' := (E2.frozen (p := ⟨w.heap.size + 1, 0, none⟩) (Hkn.out _ (show w.heap.size ≤ w.heap.size + 1 by omega)) (show w.heap.size + 1 < W.heap.size by omega)).trans bf1; have bc2' := (E2.cell (p := ⟨w.heap.size + 1 + 1, 0, none⟩) (Hkn.out _ (show w.heap.size ≤ w.heap.size + 1 + 1 by omega)) (show w.heap.size + 1 + 1 < W.heap.size by omega)).trans bc2; have bf2' := (E2.frozen (p := ⟨w.heap.size + 1 + 1, 0, none⟩) (Hkn.out _ (show w.heap.size ≤ w.heap.size + 1 + 1 by omega)) (show w.heap.size + 1 + 1 < W.heap.size by omega)).trans bf2; have R2 := Lib.hid R2; have E2 := Lib.hid E2; have ht := Lib.hid ht)
        have hk1 : κ' (w.heap.size + 1) = none := (E2.out.old _ (show w.heap.size + 1 < W.heap.size by omega)).trans (Hkn.out _ (by omega))
        have hk2 : κ' (w.heap.size + 1 + 1) = none := (E2.out.old _ (show w.heap.size + 1 + 1 < W.heap.size by omega)).trans (Hkn.out _ (by omega))
        refine ⟨?_, rfl, pre, _, rfl, Hp.out, H0.out, ?_⟩
        · exact ((KeepsFrom.of_ext (B := W0.heap.size) E2.out (fun b hb => Hkn.out b (by omega))).trans ((KeepsOthers.setCell _ _ _).from _)).trans ((KeepsOthers.setCell _ _ _).from _)
        · refine ⟨?_, ?_, κ', L', ht.out, ?_, ?_⟩
          · rw [if_neg hfull]; go_simp
          · rw [if_neg hfull]; go_simp
          · exact (R2.out.far hk1 _).far hk2 _
          · exact (((Ext.of_below hBw).trans E2.out).setNew (show w.heap.size ≤ w.heap.size + 1 by omega) _).setNew (show w.heap.size ≤ w.heap.size + 1 + 1 by omega) _
  case done =>
    rintro D ys W hD rfl ⟨hz, hB⟩ hK
    have hinn : innerN x.opn = 0 := innerN_zero fun p hp => by
      rw [← backS_val HL.out] at hp
      obtain ⟨q, hq, rfl⟩ := List.mem_map.1 hp
      exact hz q hq
    have Hinn := Lib.hid hinn
    have bc1 := (hB.cell (p := ⟨w.heap.size + 1, 0, none⟩) (show w.heap.size + 1 < W0.heap.size by omega)).trans (B1.out.cell 0 rfl)
    have bf1 := (hB.frozen (p := ⟨w.heap.size + 1, 0, none⟩) (show w.heap.size + 1 < W0.heap.size by omega)).trans (B1.out.frozen 0)
    have bc2 := (hB.cell (p := ⟨w.heap.size + 1 + 1, 0, none⟩) (show w.heap.size + 1 + 1 < W0.heap.size by omega)).trans (B2.out.cell 0 rfl)
    have bf2 := (hB.frozen (p := ⟨w.heap.size + 1 + 1, 0, none⟩) (show w.heap.size + 1 + 1 < W0.heap.size by omega)).trans (B2.out.frozen 0)
    have hne12 : w.heap.size + 1 ≠ w.heap.size + 1 + 1 := by omega
    have hBw := Lib.hid (HB0.out.trans (hB.mono (by omega)))
    have hKc : ∀ (i1 i2 : Value), ((W.setCell ⟨w.heap.size + 1, 0, none⟩ i1).setCell ⟨w.heap.size + 1 + 1, 0, none⟩ i2).heap[D]? = some (.deferred (some [])) := fun i1 i2 =>
      ((KeepsOthers.setCell W ⟨w.heap.size + 1, 0, none⟩ i1).trans (KeepsOthers.setCell _ ⟨w.heap.size + 1 + 1, 0, none⟩ i2)).same D _ hK rfl
    have HKc := Lib.hid hKc
    clear hz hB hinn hKc
    gi_wp2
    have hK' := HKc.out (.int .i64 0) (.int .i64 22)
    refine ⟨by simp, .inl ⟨_, _, rfl, run_takeDeferred hK', ?_⟩⟩
    have g1 : ((W.setCell ⟨w.heap.size + 1, 0, none⟩ (.int .i64 0)).setCell ⟨w.heap.size + 1 + 1, 0, none⟩ (.int .i64 22)).cell? ⟨w.heap.size + 1, 0, none⟩ = some (.int .i64 0) := by go_simp
    have g2 : ((W.setCell ⟨w.heap.size + 1, 0, none⟩ (.int .i64 0)).setCell ⟨w.heap.size + 1 + 1, 0, none⟩ (.int .i64 22)).cell? ⟨w.heap.size + 1 + 1, 0, none⟩ = some (.int .i64 22) := by go_simp
    have g1 := cell_kept g1 (grownBy_putObj' _ D (.deferred none)) (fun r e => by cases e; exact ⟨_, hK', rfl⟩)
    have g2 := cell_kept g2 (grownBy_putObj' _ D (.deferred none)) (fun r e => by cases e; exact ⟨_, hK', rfl⟩)
    refine ⟨.tuple #[.int .i64 0, .int .i64 22], ?_, .inl ⟨Hinn.out, rfl, ?_⟩⟩
    · simp [results, Try.f62, go_sem, g1, g2]
    · have hb1 := (hBw.out.setCell (p := ⟨w.heap.size + 1, 0, none⟩) (show w.heap.size ≤ w.heap.size + 1 by omega) (.int .i64 0)).setCell (p := ⟨w.heap.size + 1 + 1, 0, none⟩) (show w.heap.size ≤ w.heap.size + 1 + 1 by omega) (.int .i64 22)
      exact hb1.trans (belowK_b (w := w) (Nat.le_refl _) _ D _ _ (by omega) hK' rfl rfl)
  case stop =>
    rintro D c pre W hD ⟨k, hk, rfl⟩ ⟨rfl, ini, last, e1, e2, e3, g1, g2, κ', L', ht, R2, E2⟩ hK
    have g1 := cell_kept g1 (grownBy_putObj' _ D (.deferred none)) (fun r e => by cases e; exact ⟨_, hK, rfl⟩)
    have g2 := cell_kept g2 (grownBy_putObj' _ D (.deferred none)) (fun r e => by cases e; exact ⟨_, hK, rfl⟩)
    have R3 := R2.turned (grownBy_putObj' _ D (.deferred none)) (fun r e => by cases e; exact ⟨_, hK, rfl⟩)
    have E3 := E2.grownNew (grownBy_putObj' _ D (.deferred none)) (fun r e => by cases e; omega)
    obtain ⟨k', rfl⟩ : ∃ k', k = k' + 1 := by
      cases k with
      | zero => simp [backS] at e1
      | succ k' => exact ⟨k', rfl⟩
    rw [backS_succ] at e1
    obtain ⟨rfl, e5⟩ := List.append_inj' e1 rfl
    obtain rfl : (⟨(x.opn.length - 1 - k', x.opn[x.opn.length - 1 - k']?.getD 0), getD_le HL.out _⟩ : BL T.scopes.length) = last := by simpa using e5
    simp only [] at e3 R3
    have hinn : innerN x.opn = x.opn[x.opn.length - 1 - k']?.getD 0 := innerN_at (by omega) (fun p hp => by
      rw [← backS_val HL.out] at hp
      obtain ⟨q, hq, rfl⟩ := List.mem_map.1 hp
      exact e2 q hq) e3
    rw [← hinn] at e3 R3
    have HG1 := Lib.hid g1
    have HG2 := Lib.hid g2
    clear e1 e5 hinn g1 g2 R2 E2
    gi_wp2
    refine ⟨by simp, .inl ⟨_, _, rfl, run_takeDeferred hK, ?_⟩⟩
    refine ⟨.tuple #[.int .i64 (if 64 ≤ T.tasks.length then 0 else (T.tasks.length : Int) + 1), .int .i64 (if 64 ≤ T.tasks.length then 5 else 0)], ?_, .inr ⟨e3, rfl, κ', L', ht, R3, E3⟩⟩
    simp [results, Try.f62, go_sem, HG1.out, HG2.out]

end
end Go.Proofs.Ytoonkidlbnndcaa
