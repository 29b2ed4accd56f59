/-
  The methods of dues: a heap of deadlines.
-/
import Derived.Test.YtoonkidlbnndcaaMem
import Derived.RegionTactic
import Derived.BigRegion
import Derived.BigQuiet
import Derived.Deep.QuietTactic
import Derived.Deep.RegionLaw
namespace Go.Proofs.Ytoonkidlbnndcaa
set_option linter.unusedVariables false
set_option linter.unusedSimpArgs false
open Go.RowKit

def dueCells (d : Int × Int) : List Value := [.int .i64 d.1, .int .i64 d.2]

/-- The order of deadlines. -/
def dueLe (a b : Int × Int) : Prop := a.1 < b.1 ∨ (a.1 = b.1 ∧ a.2 ≤ b.2)
def dueLtB (a b : Int × Int) : Bool := if a.1 = b.1 then decide (a.2 < b.2) else decide (a.1 < b.1)
/-- No deadline stands before its parent's. -/
def HeapOk (arr : List (Int × Int)) : Prop := ∀ (i : Nat) (a b : Int × Int), 0 < i → arr[i]? = some b → arr[(i - 1) / 2]? = some a → dueLe a b

set_option maxRecDepth 100000 in
theorem less_any (b n cap i k : Nat) (x y : Int × Int) (w : World) (hi : i < n) (hk : k < n) (hn : n ≤ 1000000)
    (ci0 : w.cell? ⟨b, i * 2, none⟩ = some (.int .i64 x.1)) (ci1 : w.cell? ⟨b, i * 2 + 1, none⟩ = some (.int .i64 x.2))
    (ck0 : w.cell? ⟨b, k * 2, none⟩ = some (.int .i64 y.1)) (ck1 : w.cell? ⟨b, k * 2 + 1, none⟩ = some (.int .i64 y.2)) :
    Calls Try.prog 109 #[.slice (some ⟨b, 0, none⟩) n cap, .int .i64 (i : Int), .int .i64 (k : Int)] w fun e w' => e = .returned (.bool (dueLtB x y)) ∧ ∃ q, w' = w.drewN q := by
  obtain ⟨x1, x2⟩ := x
  obtain ⟨y1, y2⟩ := y
  simp only at ci0 ci1 ck0 ck1
  have i0 : (0 : Int) ≤ (i : Int) := by omega
  have i1 : (i : Int) < (n : Int) := by omega
  have k0 : (0 : Int) ≤ (k : Int) := by omega
  have k1 : (k : Int) < (n : Int) := by omega
  by_cases h : x1 = y1
  · subst h
    have hl : dueLtB (x1, x2) (x1, y2) = decide (x2 < y2) := by simp [dueLtB]
    rw [hl]
    clear hl
    go_enter Try.func109, Try.ntmps109
    go_wp2
    go_quiet (fail)
    go_wp2
    go_quiet (fail)
    go_wp2
    go_returns
    exact ⟨rfl, _, World.drewN_drewN _ _ _⟩
  · have hl : dueLtB (x1, x2) (y1, y2) = decide (x1 < y1) := by simp [dueLtB, h]
    rw [hl]
    clear hl
    have hb : (x1 != y1) = true := by simpa using h
    go_enter Try.func109, Try.ntmps109
    go_wp2
    go_quiet (fail)
    go_wp2
    go_quiet (fail)
    go_wp2
    go_returns
    exact ⟨rfl, _, World.drewN_drewN _ _ _⟩



/-- The world behind an exchange. -/
def swapW (w : World) (b i k : Nat) (x y : Int × Int) : World :=
  (((w.setCell ⟨b, i * 2, none⟩ (.int .i64 y.1)).setCell ⟨b, i * 2 + 1, none⟩ (.int .i64 y.2)).setCell ⟨b, k * 2, none⟩ (.int .i64 x.1)).setCell ⟨b, k * 2 + 1, none⟩ (.int .i64 x.2)

theorem swapW_drewN (w : World) (b i k : Nat) (x y : Int × Int) (n q : Nat) : (swapW (w.drewN n) b i k x y).drewN q = (swapW w b i k x y).drewN (n + q) := by
  rw [← World.drewN_drewN]
  rfl

set_option maxRecDepth 100000 in
theorem swap_any (b n cap i k : Nat) (x y : Int × Int) (w : World) (hi : i < n) (hk : k < n) (hn : n ≤ 1000000)
    (ci0 : w.cell? ⟨b, i * 2, none⟩ = some (.int .i64 x.1)) (ci1 : w.cell? ⟨b, i * 2 + 1, none⟩ = some (.int .i64 x.2))
    (ck0 : w.cell? ⟨b, k * 2, none⟩ = some (.int .i64 y.1)) (ck1 : w.cell? ⟨b, k * 2 + 1, none⟩ = some (.int .i64 y.2))
    (hf : ∀ j, w.frozen? ⟨b, j, none⟩ = false) :
    Calls Try.prog 110 #[.slice (some ⟨b, 0, none⟩) n cap, .int .i64 (i : Int), .int .i64 (k : Int)] w fun e w' => (∃ v, e = .returned v) ∧ ∃ q, w' = (swapW w b i k x y).drewN q := by
  obtain ⟨x1, x2⟩ := x
  obtain ⟨y1, y2⟩ := y
  simp only at ci0 ci1 ck0 ck1
  have i0 : (0 : Int) ≤ (i : Int) := by omega
  have i1 : (i : Int) < (n : Int) := by omega
  have k0 : (0 : Int) ≤ (k : Int) := by omega
  have k1 : (k : Int) < (n : Int) := by omega
  have f1 := hf (i * 2)
  have f2 := hf (i * 2 + 1)
  have f3 := hf (k * 2)
  have f4 := hf (k * 2 + 1)
  clear hf
  unfold swapW
  by_cases hne : i = k
  · subst hne
    obtain ⟨rfl, rfl⟩ : x1 = y1 ∧ x2 = y2 := by
      rw [ci0] at ck0
      rw [ci1] at ck1
      simpa using And.intro ck0 ck1
    clear ck0 ck1 k0 k1 f3 f4 hk
    go_enter Try.func110, Try.ntmps110
    go_wp2
    go_region
    all_goals
      go_end0
      exact ⟨⟨_, rfl⟩, 1, rfl⟩
  · go_enter Try.func110, Try.ntmps110
    go_wp2
    go_region
    all_goals
      go_end0
      exact ⟨⟨_, rfl⟩, 1, rfl⟩

/-- The deadlines arr lie in a field of block g. -/
structure DRep (g : Nat) (c0 c1 c2 dv : Value) (arr : List (Int × Int)) (w : World) : Prop where
  blk : Blk w g 88 #[c0, c1, c2, dv]
  row : w.ownsRow 0 92 2 dv arr.length (arr.flatMap dueCells)

theorem flat_get : ∀ (arr : List (Int × Int)) (i : Nat) (d : Int × Int), arr[i]? = some d → (arr.flatMap dueCells)[i * 2]? = some (.int .i64 d.1) ∧ (arr.flatMap dueCells)[i * 2 + 1]? = some (.int .i64 d.2)
  | [], i, d, h => by simp at h
  | a :: l, 0, d, h => by
    obtain rfl : a = d := by simpa using h
    exact ⟨rfl, rfl⟩
  | a :: l, i + 1, d, h => by
    rw [List.flatMap_cons, show (i + 1) * 2 = i * 2 + 1 + 1 by omega]
    exact flat_get l i d (by simpa using h)

theorem flat_set : ∀ (arr : List (Int × Int)) (i : Nat) (d : Int × Int), (arr.set i d).flatMap dueCells = if i < arr.length then ((arr.flatMap dueCells).set (i * 2) (.int .i64 d.1)).set (i * 2 + 1) (.int .i64 d.2) else arr.flatMap dueCells
  | [], i, d => by simp
  | a :: l, 0, d => by
    simp only [List.set_cons_zero, List.flatMap_cons, List.length_cons, Nat.zero_lt_succ, if_true]
    rfl
  | a :: l, i + 1, d => by
    simp only [List.set_cons_succ, List.flatMap_cons, List.length_cons, Nat.add_lt_add_iff_right]
    rw [flat_set l i d, show (i + 1) * 2 = i * 2 + 1 + 1 by omega]
    split <;> rfl

theorem flat_len (arr : List (Int × Int)) : (arr.flatMap dueCells).length = arr.length * 2 := by
  induction arr with
  | nil => rfl
  | cons a l ih => simp only [List.flatMap_cons, List.length_append, ih, List.length_cons]; simp [dueCells]; omega

def swapL (arr : List (Int × Int)) (i k : Nat) (x y : Int × Int) : List (Int × Int) := (arr.set i y).set k x

section
variable {g : Nat} {c0 c1 c2 dv : Value} {arr : List (Int × Int)} {w w' : World}

theorem DRep.form (D : DRep g c0 c1 c2 dv arr w) : (dv = .slice none 0 0 ∧ arr = []) ∨ ∃ b cap, dv = .slice (some ⟨b, 0, none⟩) arr.length cap ∧ arr.length ≤ cap ∧ cap ≤ maxLen ∧ b < w.heap.size ∧ b ≠ g ∧ (∀ j, w.frozen? ⟨b, j, none⟩ = false) ∧
    (∀ i d, arr[i]? = some d → w.cell? ⟨b, i * 2, none⟩ = some (.int .i64 d.1) ∧ w.cell? ⟨b, i * 2 + 1, none⟩ = some (.int .i64 d.2)) := by
  have h0 := D.row
  rcases D.row.2 with ⟨h, hl⟩ | ⟨b, cap, cur, rfl, _, hgg, hn, hm, _, _⟩
  · exact .inl ⟨h, List.eq_nil_of_length_eq_zero hl⟩
  · refine .inr ⟨b, cap, rfl, hn, hm, (Array.getElem?_eq_some_iff.1 hgg).1, ?_, fun j => h0.frozenAt j, fun i d hd => ?_⟩
    · rintro rfl
      have := D.blk
      unfold Blk at this
      rw [hgg] at this
      injection this with this
      injection this with _ this
      cases this
    · have hi := (List.getElem?_eq_some_iff.1 hd).1
      obtain ⟨h1, h2⟩ := flat_get arr i d hd
      exact ⟨(h0.cellAt _ (by omega)).trans h1, (h0.cellAt _ (by omega)).trans h2⟩

theorem DRep.dcell (D : DRep g c0 c1 c2 dv arr w) : w.cell? ⟨g, 3, none⟩ = some dv := D.blk.cell 3 rfl

/-- Behind an exchange. -/
theorem DRep.swapped {b cap i k : Nat} {x y : Int × Int} (D : DRep g c0 c1 c2 (.slice (some ⟨b, 0, none⟩) arr.length cap) arr w) (hi : i < arr.length) (hk : k < arr.length) (hg : b ≠ g) (q : Nat) :
    DRep g c0 c1 c2 (.slice (some ⟨b, 0, none⟩) arr.length cap) (swapL arr i k x y) ((swapW w b i k x y).drewN q) where
  blk := by
    have := (((D.blk.far (p := ⟨b, i * 2, none⟩) (Ne.symm hg) (.int .i64 y.1)).far (p := ⟨b, i * 2 + 1, none⟩) (Ne.symm hg) (.int .i64 y.2)).far (p := ⟨b, k * 2, none⟩) (Ne.symm hg) (.int .i64 x.1)).far (p := ⟨b, k * 2 + 1, none⟩) (Ne.symm hg) (.int .i64 x.2)
    exact this
  row := by
    have hs : (swapL arr i k x y).length = arr.length := by simp [swapL]
    rw [hs]
    have := ((((D.row.stored (i * 2) (.int .i64 y.1)).1.stored (i * 2 + 1) (.int .i64 y.2)).1.stored (k * 2) (.int .i64 x.1)).1.stored (k * 2 + 1) (.int .i64 x.2)).1
    have e : (swapL arr i k x y).flatMap dueCells = ((((arr.flatMap dueCells).set (i * 2) (.int .i64 y.1)).set (i * 2 + 1) (.int .i64 y.2)).set (k * 2) (.int .i64 x.1)).set (k * 2 + 1) (.int .i64 x.2) := by
      unfold swapL
      rw [flat_set, if_pos (by simpa using hk), flat_set, if_pos hi]
    rw [e]
    exact this

theorem Ext.swapped {κ : Kap} {b i k : Nat} {x y : Int × Int} (hb : κ b ≠ none) (q : Nat) : Ext κ κ w ((swapW w b i k x y).drewN q) :=
  (((((Ext.refl κ w).setCell (p := ⟨b, i * 2, none⟩) hb _).setCell (p := ⟨b, i * 2 + 1, none⟩) hb _).setCell (p := ⟨b, k * 2, none⟩) hb _).setCell (p := ⟨b, k * 2 + 1, none⟩) hb _).drewN q

theorem dlen_any (ad : Option Addr) (n cap : Nat) (w : World) : Calls Try.prog 108 #[.slice ad n cap] w fun e w' => e = .returned (.int .i64 (n : Int)) ∧ w = w' := by
  go_enter Try.func108, Try.ntmps108
  go_wp2
  go_returns
  exact ⟨rfl, rfl⟩

set_option maxRecDepth 100000 in
/-- (*dues).Push. -/
theorem dpush_any {κ : Kap} (D : DRep g c0 c1 c2 dv arr w) (d : Int × Int) (hn : arr.length ≤ 1000) (hl : ∀ b t, κ b = some t → b < w.heap.size) (hg : κ g = some .grove) (hd : ∀ b, dv.ownBlock = some b → κ b = some .due) :
    Calls Try.prog 112 #[.pointer (some ⟨g, 3, none⟩), .iface 92 (.agg #[.int .i64 d.1, .int .i64 d.2])] w fun e w' => (∃ v, e = .returned v) ∧ ∃ κ' b cap, DRep g c0 c1 c2 (.slice (some ⟨b, 0, none⟩) (arr.length + 1) cap) (arr ++ [d]) w' ∧ Ext κ κ' w w' ∧
      (∀ b t, κ' b = some t → b < w'.heap.size) ∧ κ' g = some .grove ∧ κ' b = some .due := by
  have c3 := D.dcell
  have HD := Lib.hid D
  have Hn : Hid (arr.length ≤ 1000000) := by show arr.length ≤ 1000000; omega
  have Hl := Lib.hid hl
  have Hg := Lib.hid hg
  have Hd := Lib.hid hd
  have lg := D.blk.lt
  have f3 := D.blk.frozen 3
  obtain ⟨ad, cap0, hv⟩ : ∃ ad cap, dv = .slice ad arr.length cap := by
    rcases D.form with ⟨h, h2⟩ | ⟨b, cap, h, _⟩
    · exact ⟨_, _, by rw [h, h2]; rfl⟩
    · exact ⟨_, _, h⟩
  subst hv
  have Hvo : Hid (w.drew.ownsRow 0 92 2 (.slice ad arr.length cap0) arr.length (arr.flatMap dueCells)) := D.row
  have HO : Hid (Blk w.drew g 88 #[c0, c1, c2, .slice ad arr.length cap0]) := D.blk
  have Hng : Hid ((Value.slice ad arr.length cap0).ownBlock ≠ some g) := by
    rcases D.form with ⟨h, h2⟩ | ⟨b, cap, h, _, _, _, hb, _⟩
    · rw [h]; simp [Hid, Value.ownBlock]
    · rw [h]; simpa [Hid, Value.ownBlock] using hb
  generalize hm : arr.length = m at *
  have Hm := Lib.hid hm
  clear D hn hl hg hd hm
  have hta : ∀ (a b : Value) (W : World), (Instr.typeAssert (.iface 92 (.agg #[a, b])) 20 92 false).run Try.prog W = .ok (.agg #[a, b]) W := fun a b W => by kernel_rfl
  go_enter Try.func112, Try.ntmps112
  go_wp2
  go_region_law (refine step_push rfl (.tmp 7) (.tmp 10) 86 rfl 92 2 16 _ Try.infoDue rfl (by omega) (by omega) Try.underlying86 (.slice ad m cap0) m _ rfl (Hvo.out.alloc _) [.int .i64 d.1, .int .i64 d.2] ⟨w.heap.size, 0, none⟩ rfl (cells_new_at w.drew #[.int .i64 d.1, .int .i64 d.2] _) rfl (by simp [Value.oneCell']) Hn.out ?_; intro b cap w6 hown6 hgrow6 hat6; have hO6 := Lib.hid ((HO.out.alloc (.cells #[.int .i64 d.1, .int .i64 d.2] 92)).grown hgrow6 Hng.out); have o6 : w6.cell? ⟨g, 3, none⟩ = some (.slice ad m cap0) := hO6.out.cell 3 rfl; have f6 : w6.frozen? ⟨g, 3, none⟩ = false := hO6.out.frozen 3; have hown6 := Lib.hid hown6; have hgrow6 := Lib.hid hgrow6; have hat6 := Lib.hid hat6)
  all_goals
    go_end0
    have hs6 : w.heap.size < w6.heap.size := by
      have := hgrow6.out.size
      simp at this
      omega
    have hE6 : Ext κ κ w w6 := (((Ext.refl κ w).drewN 1).alloc (.cells #[.int .i64 d.1, .int .i64 d.2] 92)).grown hgrow6.out (fun b hb => by rw [Hd.out b hb]; simp)
    have lb6 : b < w6.heap.size := (hown6.out.lt b rfl).2
    have hbg : b ≠ g := by
      rcases hat6.out with h | h
      · exact fun e => Hng.out (e ▸ h)
      · simp at h; omega
    have hkb : ∀ x, x < w.heap.size → (κ.set b .due) x = κ x := fun x hx => by
      by_cases e : x = b
      · subst e
        rw [Kap.set_same]
        rcases hat6.out with h | h
        · exact (Hd.out x h).symm
        · simp at h; omega
      · exact Kap.set_other _ _ e
    refine ⟨⟨_, rfl⟩, κ.set b .due, b, cap, ?_, ?_, ?_, ?_, Kap.set_same _ _ _⟩
    · exact {
        blk := hO6.out.set_ 3 _
        row := by
          rw [List.length_append, List.flatMap_append]
          simp only [List.length_cons, List.length_nil, List.flatMap_cons, List.flatMap_nil, List.append_nil]
          rw [Hm.out]
          exact owns_of hown6.out (fun b' hb' => by
            have : b = b' := by simpa [Value.ownBlock] using hb'
            subst this
            exact Below.heap_setCell w6 _ _ b hbg) }
    · exact (hE6.setCell (p := ⟨g, 3, none⟩) (by rw [Hg.out]; simp) _).name hkb
    · intro x t hx
      have : (w6.setCell ⟨g, 3, none⟩ (.slice (some ⟨b, 0, none⟩) (m + 1) cap)).heap.size = w6.heap.size := by simp [World.setCell]
      rw [this]
      by_cases e : x = b
      · subst e; exact lb6
      · rw [Kap.set_other _ _ e] at hx
        have := Hl.out x t hx
        omega
    · rw [hkb g lg]
      exact Hg.out

end
end Go.Proofs.Ytoonkidlbnndcaa
