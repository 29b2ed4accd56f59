/-
  (*dues).Pop; and the methods as container/heap meets them.
-/
import Derived.Test.YtoonkidlbnndcaaHeap0
import Derived.WalkSmall
namespace Go.Proofs.Ytoonkidlbnndcaa
set_option linter.unusedVariables false
set_option linter.unusedSimpArgs false
open Go.RowKit

theorem meth_len {a : Addr} {W : World} {ad : Option Addr} {n c : Nat} (h : W.cell? a = some (.slice ad n c)) : (method 263 94 (.pointer (some a)) "Len").run Try.prog W = .ok (108, .slice ad n c) W := by
  have e : (method 263 94 (.pointer (some a)) "Len").run Try.prog W = ((loadVar 86 a) >>= fun v => (pure (108, v) : Sem _)).run Try.prog W := by kernel_rfl
  rw [e]
  have hu := Try.underlying86
  go_simp

theorem meth_less {a : Addr} {W : World} {ad : Option Addr} {n c : Nat} (h : W.cell? a = some (.slice ad n c)) : (method 263 94 (.pointer (some a)) "Less").run Try.prog W = .ok (109, .slice ad n c) W := by
  have e : (method 263 94 (.pointer (some a)) "Less").run Try.prog W = ((loadVar 86 a) >>= fun v => (pure (109, v) : Sem _)).run Try.prog W := by kernel_rfl
  rw [e]
  have hu := Try.underlying86
  go_simp

theorem meth_swap {a : Addr} {W : World} {ad : Option Addr} {n c : Nat} (h : W.cell? a = some (.slice ad n c)) : (method 263 94 (.pointer (some a)) "Swap").run Try.prog W = .ok (110, .slice ad n c) W := by
  have e : (method 263 94 (.pointer (some a)) "Swap").run Try.prog W = ((loadVar 86 a) >>= fun v => (pure (110, v) : Sem _)).run Try.prog W := by kernel_rfl
  rw [e]
  have hu := Try.underlying86
  go_simp

section
variable {g : Nat} {c0 c1 c2 dv : Value} {arr : List (Int × Int)} {w w' : World}

set_option maxRecDepth 100000 in
/-- (*dues).Pop. -/
theorem dpop_any {κ : Kap} {l : List (Int × Int)} {d : Int × Int} {b cap : Nat} (D : DRep g c0 c1 c2 (.slice (some ⟨b, 0, none⟩) (l.length + 1) cap) (l ++ [d]) w) (hn : l.length ≤ 1000) (hg : κ g = some .grove) :
    Calls Try.prog 111 #[.pointer (some ⟨g, 3, none⟩)] w fun e w' => e = .returned (.iface 92 (.agg #[.int .i64 d.1, .int .i64 d.2])) ∧ DRep g c0 c1 c2 (.slice (some ⟨b, 0, none⟩) l.length cap) l w' ∧ Ext κ κ w w' := by
  have c3 := D.dcell
  have lg := D.blk.lt
  have f3 := D.blk.frozen 3
  have Hg := Lib.hid hg
  obtain ⟨hcap, hbg, lb, hcl⟩ : l.length + 1 ≤ cap ∧ b ≠ g ∧ b < w.heap.size ∧ (w.cell? ⟨b, l.length * 2, none⟩ = some (.int .i64 d.1) ∧ w.cell? ⟨b, l.length * 2 + 1, none⟩ = some (.int .i64 d.2)) := by
    rcases D.form with ⟨h, _⟩ | ⟨b', cap', h, h1, h2, h3, h4, h5, h6⟩
    · cases h
    · injection h with e1 e2 e3
      injection e1 with e1
      injection e1 with e1
      subst e1 e3
      refine ⟨by simpa using h1, h4, h3, h6 l.length d (by simp)⟩
  have HD := Lib.hid D
  obtain ⟨d1, d2⟩ := d
  simp only at hcl
  obtain ⟨k0, k1⟩ := hcl
  have hq : Hid (Blk w g 88 #[c0, c1, c2, .slice (some ⟨b, 0, none⟩) (l.length + 1) cap]) := D.blk
  have hr : Hid (w.ownsRow 0 92 2 (.slice (some ⟨b, 0, none⟩) l.length cap) l.length (l.flatMap dueCells)) := by
    have := D.row
    rw [List.length_append, List.flatMap_append] at this
    exact ownsRow_pop (flat_len l) this
  have hbg := Lib.hid hbg
  generalize hm : l.length = m at *
  have hm := Lib.hid hm
  clear D hg HD
  have m0 : (0 : Int) ≤ (m : Int) := by omega
  go_enter Try.func111, Try.ntmps111
  go_wp2
  go_region
  go_wp2
  go_region
  go_wp2
  go_returns
  refine ⟨rfl, ⟨?_, ?_⟩, ?_⟩
  · have := (hq.out.set_ 3 (.slice (some ⟨b, 0, none⟩) m cap)).alloc (.cells #[.int .i64 d1, .int .i64 d2] 92)
    exact this
  · rw [hm.out]
    exact owns_of hr.out (fun b' hb' => by
      have : b = b' := by simpa [Value.ownBlock] using hb'
      subst this
      exact (Below.heap_alloc _ _ b (by simpa [World.setCell] using lb)).trans (Below.heap_setCell w ⟨g, 3, none⟩ _ b hbg.out))
  · exact ((((Ext.refl κ w).setCell (p := ⟨g, 3, none⟩) (by rw [Hg.out]; simp) _).alloc (.cells #[.int .i64 d1, .int .i64 d2] 92)).drewN 2)

end
end Go.Proofs.Ytoonkidlbnndcaa
