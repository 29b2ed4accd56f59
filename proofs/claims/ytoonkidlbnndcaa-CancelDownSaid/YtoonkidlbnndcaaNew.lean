/-
  A tree of roots, and another root.
-/
import Derived.Test.YtoonkidlbnndcaaAdd2
namespace Go.Proofs.Ytoonkidlbnndcaa
set_option linter.unusedVariables false
set_option linter.unusedSimpArgs false
open Go.RowKit

def Kap.nil : Kap := fun _ => none

section
variable {κ : Kap} {L : Lay} {T : TreeA} {w : World}

theorem tnew_bad (n : Int) (w : World) (h : n < 1 ∨ 64 < n) :
    Calls Try.prog 47 #[.int .i64 n] w fun e w' => e = .returned (.tuple #[.pointer none, .int .i64 2]) ∧ w = w' := by
  rcases h with h | h
  · go_enter Try.func47, Try.ntmps47
    go_wp2
    go_ret2
    exact ⟨rfl, rfl⟩
  · have h1 : ¬ n < 1 := by omega
    go_enter Try.func47, Try.ntmps47
    go_wp2
    go_ret2
    exact ⟨rfl, rfl⟩

def roots (n : Nat) : TreeA := ⟨List.replicate n (.new 0), []⟩

theorem rep_nil (w : World) : Rep (Kap.set Kap.nil w.heap.size .tree) ⟨w.heap.size, .slice none 0 0, .slice none 0 0, fun _ => 0, fun _ => 0, fun _ => .slice none 0 0, fun _ => .slice none 0 0⟩ (roots 0) (w.alloc (.cells #[.slice none 0 0, .slice none 0 0] 107)) where
  lt b g h := by
    by_cases e : b = w.heap.size
    · subst e; simp
    · rw [Kap.set_other _ _ e] at h; cases h
  tree := Blk.new w _ _
  ktree := Kap.set_same _ _ _
  ts := World.ownsRow_nil _ _ _ _
  kts b h := by cases h
  ss := World.ownsRow_nil _ _ _ _
  kss b h := by cases h
  task i x h := by simp [roots] at h
  ktask i x h := by simp [roots] at h
  scope i x h := by simp [roots] at h
  kscope i x h := by simp [roots] at h
  opn i x h := by simp [roots] at h
  kopn i x h := by simp [roots] at h
  kid i x h := by simp [roots] at h
  kkid i x h := by simp [roots] at h

theorem tnew_ok (n : Nat) (w : World) (h1 : 1 ≤ n) (h2 : n ≤ 64) :
    Calls Try.prog 47 #[.int .i64 n] w fun e w' => ∃ p, e = .returned (.tuple #[.pointer (some ⟨p, 0, none⟩), .int .i64 0]) ∧ ∃ κ L, L.t = p ∧ Rep κ L (roots n) w' ∧ Ext Kap.nil κ w w' := by
  have R0 := rep_nil w
  have E0 : Ext Kap.nil (Kap.set Kap.nil w.heap.size .tree) w (w.alloc (.cells #[.slice none 0 0, .slice none 0 0] 107)) :=
    Ext.name ((Ext.refl Kap.nil w).alloc _) (fun b hb => Kap.set_other _ _ (by omega))
  have H0 : Hid (∃ κ L, L.t = w.heap.size ∧ Rep κ L (roots 0) (w.alloc (.cells #[.slice none 0 0, .slice none 0 0] 107)) ∧ Ext Kap.nil κ w (w.alloc (.cells #[.slice none 0 0, .slice none 0 0] 107))) := ⟨_, _, rfl, R0, E0⟩
  clear R0 E0
  go_enter Try.func47, Try.ntmps47
  go_wp2
  go_loopw [14] (fun i wr => ∃ k : Nat, k ≤ n ∧ i = .int .i64 k ∧ Hid (∃ κ L, L.t = w.heap.size ∧ Rep κ L (roots k) wr ∧ Ext Kap.nil κ w wr)) (fun i _ => n - (intOf i).toNat)
  case atStart => exact ⟨0, Nat.zero_le _, rfl, H0⟩
  case round =>
    obtain ⟨k, hk, rfl, HR⟩ := hrel
    by_cases hlt : k < n
    · obtain ⟨κ, L, ht, R, E⟩ := HR.out
      have hlen : (roots k).tasks.length = k := by simp [roots]
      have C := add_root R (fun i s h => by simp [roots] at h) (fun i s h => by simp [roots] at h) (by omega)
      rw [ht] at C
      have C := Lib.hid C
      have HE := Lib.hid E
      have Ht := Lib.hid ht
      clear HR R E hlen ht H0
      go_wp2_with (go_at_call 76; refine C.out.mono ?_; rintro e w' ⟨rfl, H⟩; have H := Lib.hid H)
      go_roundw
      case rel =>
        obtain ⟨κ', L', ht', R', E'⟩ := H.out
        refine ⟨k + 1, by omega, by go_num, κ', L', ht', ?_, HE.out.trans E'⟩
        have e : roots (k + 1) = { roots k with tasks := (roots k).tasks ++ [.new 0] } := by simp [roots, List.replicate_succ']
        rw [e]
        exact R'
      case measure => simp [intOf]; omega
    · obtain rfl : k = n := by omega
      go_wp2
      go_ret2
      exact ⟨_, rfl, HR.out⟩

theorem root_nil (w : World) : Calls Try.prog 67 #[.pointer none] w fun e w' => e = .returned (.tuple #[.int .i64 0, .int .i64 2]) ∧ w = w' := by
  go_enter Try.func67, Try.ntmps67
  go_wp2
  go_ret2
  exact ⟨rfl, rfl⟩

theorem root_full (R : Rep κ L T w) (h : 64 ≤ T.tasks.length) :
    Calls Try.prog 67 #[.pointer (some ⟨L.t, 0, none⟩)] w fun e w' => e = .returned (.tuple #[.int .i64 0, .int .i64 5]) ∧ w = w' := by
  obtain ⟨c0, c1⟩ := R.treecells
  obtain ⟨ad, cap, hv, hcap, hm⟩ := owns_len R.ts
  rw [hv] at c0
  clear R hv
  go_enter Try.func67, Try.ntmps67
  go_wp2
  go_ret2
  exact ⟨rfl, rfl⟩

theorem root_ok (R : Rep κ L T w) (hown : ∀ (i : Nat) (s : ScopeA), T.scopes[i]? = some s → s.owner ≤ T.tasks.length) (hkid : ∀ (i : Nat) (s : ScopeA), T.scopes[i]? = some s → ∀ n ∈ s.kids, n ≤ T.tasks.length) (h : T.tasks.length < 64) :
    Calls Try.prog 67 #[.pointer (some ⟨L.t, 0, none⟩)] w fun e w' => e = .returned (.tuple #[.int .i64 ((T.tasks.length : Int) + 1), .int .i64 0]) ∧
      ∃ κ' L', L'.t = L.t ∧ Rep κ' L' { T with tasks := T.tasks ++ [.new 0] } w' ∧ Ext κ κ' w w' := by
  obtain ⟨c0, c1⟩ := R.treecells
  obtain ⟨ad, cap, hv, hcap, hm⟩ := owns_len R.ts
  rw [hv] at c0
  have C := Lib.hid (add_root R hown hkid (by omega))
  clear R hv hown hkid
  go_enter Try.func67, Try.ntmps67
  go_wp2_with (go_at_call 76; refine C.out.mono ?_; rintro e w' ⟨rfl, H⟩; have H := Lib.hid H)
  go_ret2
  exact ⟨rfl, H.out⟩

end
end Go.Proofs.Ytoonkidlbnndcaa
