/-
  heap.Pop over deadlines.
-/
import Derived.Test.YtoonkidlbnndcaaHeap3
namespace Go.Proofs.Ytoonkidlbnndcaa
set_option linter.unusedVariables false
set_option linter.unusedSimpArgs false
open Go.RowKit

theorem snoc_of_last {α : Type} {l : List α} {n : Nat} {x : α} (hl : l.length = n + 1) (hx : l[n]? = some x) : l = l.take n ++ [x] := by
  have h := List.take_succ_eq_append_getElem (l := l) (i := n) (by omega)
  have e : l.take (n + 1) = l := List.take_of_length_le (by omega)
  rw [e] at h
  rw [List.getElem?_eq_getElem (by omega)] at hx
  cases hx
  exact h

section
variable {g : Nat} {c0 c1 c2 dv : Value} {arr : List (Int × Int)} {w w' : World}

theorem hpop_any {κ : Kap} {d : Int × Int} (D : DRep g c0 c1 c2 dv arr w) (hn : arr.length ≤ 1000) (hg : κ g = some .grove) (hd : ∀ b, dv.ownBlock = some b → κ b = some .due) (H : HeapOk arr) (h0 : arr[0]? = some d) :
    Calls Try.prog 51 #[.iface 94 (.pointer (some ⟨g, 3, none⟩))] w fun e w' => e = .returned (.iface 92 (.agg #[.int .i64 d.1, .int .i64 d.2])) ∧ ∃ dv' arr', DRep g c0 c1 c2 dv' arr' w' ∧ arr.Perm (d :: arr') ∧ HeapOk arr' ∧ Ext κ κ w w' ∧
      (∀ b, dv'.ownBlock = some b → κ b = some .due) := by
  obtain ⟨n, hl⟩ : ∃ n, arr.length = n + 1 := ⟨arr.length - 1, by have := (List.getElem?_eq_some_iff.1 h0).1; omega⟩
  obtain ⟨b, cap, hv⟩ : ∃ b cap, dv = .slice (some ⟨b, 0, none⟩) arr.length cap := by
    rcases D.form with ⟨h, h2⟩ | ⟨b, cap, h, _⟩
    · rw [h2] at hl; simp at hl
    · exact ⟨b, cap, h⟩
  subst hv
  have hb : κ b = some .due := hd b rfl
  obtain ⟨y, hy⟩ : ∃ y, arr[n]? = some y := ⟨_, List.getElem?_eq_getElem (by omega)⟩
  have hs0 : (swapL arr 0 n d y)[n]? = some d := by simp [swapL, hl]
  have U : DownInv (swapL arr 0 n d y) 0 n := by
    refine ⟨fun k a b hk hkn hkj hb ha => ?_, fun k a b _ _ _ h => absurd h (Nat.lt_irrefl _)⟩
    rw [swapL_get (by omega) (by omega) (by omega)] at hb ha
    rw [if_neg (by omega), if_neg (by omega)] at hb
    rw [if_neg (by omega), if_neg hkj] at ha
    exact H k a b hk hb ha
  have dc := D.dcell
  have lg := D.blk.lt
  have ml := meth_len dc
  have CW : Hid (Calls Try.prog 110 #[.slice (some ⟨b, 0, none⟩) (n + 1) cap, .int .i64 0, .int .i64 (n : Int)] w fun e w' => (∃ v, e = .returned v) ∧ DRep g c0 c1 c2 (.slice (some ⟨b, 0, none⟩) (n + 1) cap) (swapL arr 0 n d y) w' ∧ Ext κ κ w w') := by
    rw [← hl]
    exact D.swap (by omega) hb h0 hy 0 (p := 0) (q := n) rfl rfl
  have ms := meth_swap dc
  rw [hl] at dc ml ms
  have Hl := Lib.hid hl
  have Hg := Lib.hid hg
  have Hb := Lib.hid hb
  have HS0 := Lib.hid hs0
  have HU := Lib.hid U
  have Hp := Lib.hid (swapL_perm h0 hy)
  have n0 : (0 : Int) ≤ (n : Int) := by omega
  have n1 : n + 1 ≤ 1000 := by omega
  have hsl : Hid ((swapL arr 0 n d y).length = n + 1) := by show _ = _; rw [← hl]; simp [swapL]
  clear D hg hd H h0 hl hy hs0 U hb hn
  generalize swapL arr 0 n d y = sw at *
  go_enter Try.func51, Try.ntmps51
  go_wp2_with (first | (go_at_call 108; refine (dlen_any _ _ _ _).mono ?_; rintro e w' ⟨rfl, rfl⟩) | (go_at_call 110; refine CW.out.mono ?_; rintro e w2 ⟨⟨v, rfl⟩, D2, E2⟩; have lg2 := D2.blk.lt; have D2 := Lib.hid D2; have E2 := Lib.hid E2))
  have CD : Hid (Calls Try.prog 79 #[.iface 94 (.pointer (some ⟨g, 3, none⟩)), .int .i64 0, .int .i64 (n : Int)] w2 fun e w' => (∃ v, e = .returned v) ∧ ∃ l, DRep g c0 c1 c2 (.slice (some ⟨b, 0, none⟩) (n + 1) cap) (l ++ [d]) w' ∧ l.length = n ∧ (l ++ [d]).Perm arr ∧ HeapOk l ∧ Ext κ κ w w') := by
    have D2' := D2.out
    rw [← hsl.out] at D2'
    refine (down_any D2' (by rw [hsl.out]; omega) n (by rw [hsl.out]; omega) HU.out Hb.out).mono ?_
    rintro e w3 ⟨hv, arr3, D3, hp3, ht3, hn3, E3⟩
    have hl3 : arr3.length = n + 1 := by rw [hp3.length_eq, hsl.out]
    have hx3 := snoc_of_last hl3 (hn3.trans HS0.out)
    refine ⟨hv, arr3.take n, ?_, by simp; omega, ?_, fun i a b' hi hb' ha => ?_, E2.out.trans E3⟩
    · rw [← hx3, ← hsl.out]
      exact D3
    · rw [← hx3]
      exact hp3.trans Hp.out
    · have hin : i < n := by have := (List.getElem?_eq_some_iff.1 hb').1; simp at this; omega
      rw [List.getElem?_take_of_lt hin] at hb'
      rw [List.getElem?_take_of_lt (by omega)] at ha
      exact ht3 i a b' hi hin hb' ha
  go_wp2_with (go_at_call 79; refine CD.out.mono ?_; rintro e w3 ⟨⟨v3, rfl⟩, l, D3, hl3, hp3, ho3, E3⟩; have D3 := Lib.hid D3; have hl3 := Lib.hid hl3; have hp3 := Lib.hid hp3; have ho3 := Lib.hid ho3; have E3 := Lib.hid E3)
  have CP : Hid (Calls Try.prog 111 #[.pointer (some ⟨g, 3, none⟩)] w3 fun e w' => e = .returned (.iface 92 (.agg #[.int .i64 d.1, .int .i64 d.2])) ∧ DRep g c0 c1 c2 (.slice (some ⟨b, 0, none⟩) l.length cap) l w' ∧ Ext κ κ w3 w') := by
    have D3' := D3.out
    rw [← hl3.out] at D3'
    exact dpop_any D3' (by have := hl3.out; omega) Hg.out
  go_wp2_with (go_at_call 111; refine CP.out.mono ?_; rintro e w4 ⟨rfl, D4, E4⟩; have D4 := Lib.hid D4; have E4 := Lib.hid E4)
  go_returns
  refine ⟨rfl, _, l, D4.out, ?_, ho3.out, E3.out.trans E4.out, fun b' hb' => ?_⟩
  · exact hp3.out.symm.trans (List.perm_append_singleton d l)
  · have : b = b' := by simpa [Value.ownBlock] using hb'
    subst this
    exact Hb.out

end
end Go.Proofs.Ytoonkidlbnndcaa
