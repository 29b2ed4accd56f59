/-
  CancelNobody: the walk.
-/
import Derived.Test.YtoonkidlbnndcaaOpAt
import Derived.Deep.RegionHeld3
namespace Go.Proofs.Ytoonkidlbnndcaa
set_option linter.unusedVariables false
set_option linter.unusedSimpArgs false
open Go.RowKit

set_option maxRecDepth 100000 in
set_option maxHeartbeats 4000000 in
theorem nobody (kd n m : Int) (b : Bool) (f : Flt) (w : World) : Calls Try.prog 8 #[.agg #[.int .i64 kd, .int .i64 n, .int .i64 m, .bool b, .int .i64 f.kind, .string f.text]] w fun e w' => e = .returned (.bool true) ∧ Below w.heap.size w w' := by
  have s0 : OpAt w (w.alloc (.cells #[.int .i64 kd, .int .i64 n, .int .i64 m, .bool b, .int .i64 f.kind, .string f.text] 50)) kd n m b f := ⟨(Below.refl _ _).alloc (Nat.le_refl _) _, Blk.new w _ _⟩
  have s := Lib.hid s0
  clear s0
  have hf : Hid (fltV f = .agg #[.int .i64 f.kind, .string f.text]) := rfl
  have C37 : Hid (∀ W, Calls Try.prog 37 #[.pointer none, .int .i64 n, .agg #[.int .i64 f.kind, .string f.text]] W fun e w' => e = .returned (.tuple #[.slice none 0 0, .int .i64 2]) ∧ Below W.heap.size W w') := fun W => gend_nil n f W
  have C38 : Hid (∀ W, Calls Try.prog 38 #[.pointer none, .int .i64 n, .agg #[.int .i64 f.kind, .string f.text]] W fun e w' => e = .returned (.tuple #[.slice none 0 0, .int .i64 2]) ∧ Below W.heap.size W w') := fun W => gleave_nil n f W
  have C39 : Hid (∀ W, Calls Try.prog 39 #[.pointer none, .int .i64 n, .agg #[.int .i64 f.kind, .string f.text]] W fun e w' => e = .returned (.tuple #[.slice none 0 0, .int .i64 2]) ∧ Below W.heap.size W w') := fun W => gfail_nil n f W
  go_enter Try.func8, Try.ntmps8
  go_wp2_with (first
    | (go_at_call 35; refine (gopen_nil _ _ _ _).mono ?_; rintro e w1 ⟨rfl, h⟩; have s1 := s.out.step h; obtain ⟨a1, a2, a3, a4, a5, a6⟩ := s1.cells; have s1 := Lib.hid s1; clear s h)
    | (go_at_call 36; refine (gspawn_nil _ _).mono ?_; rintro e w2 ⟨rfl, h⟩; have s2 := s1.out.step h; clear a1 a2 a3 a4 a5 a6; obtain ⟨a1, a2, a3, a4, a5, a6⟩ := s2.cells; have s2 := Lib.hid s2; clear s1 h)
    | (go_at_call 37; refine (C37.out _).mono ?_; rintro e w3 ⟨rfl, h⟩; have s3 := s2.out.step h; clear a1 a2 a3 a4 a5 a6; obtain ⟨a1, a2, a3, a4, a5, a6⟩ := s3.cells; have s3 := Lib.hid s3; clear s2 h)
    | (go_at_call 38; refine (C38.out _).mono ?_; rintro e w4 ⟨rfl, h⟩; have s4 := s3.out.step h; clear a1 a2 a3 a4 a5 a6; obtain ⟨a1, a2, a3, a4, a5, a6⟩ := s4.cells; have s4 := Lib.hid s4; clear s3 h)
    | (go_at_call 39; refine (C39.out _).mono ?_; rintro e w5 ⟨rfl, h⟩; have s5 := s4.out.step h; clear a1 a2 a3 a4 a5 a6; obtain ⟨a1, a2, a3, a4, a5, a6⟩ := s5.cells; have s5 := Lib.hid s5; clear s4 h)
    | (go_at_call 40; refine (groot_nil _).mono ?_; rintro e w6 ⟨rfl, h⟩; have s6 := s5.out.step h; clear a1 a2 a3 a4 a5 a6; obtain ⟨a1, a2, a3, a4, a5, a6⟩ := s6.cells; have s6 := Lib.hid s6; clear s5 h)
    | (go_at_call 30; refine (gstrike_nil _ _).mono ?_; rintro e w7 ⟨rfl, h⟩; have s7 := s6.out.step h; clear a1 a2 a3 a4 a5 a6; obtain ⟨a1, a2, a3, a4, a5, a6⟩ := s7.cells; have s7 := Lib.hid s7; clear s6 h)
    | (go_at_call 27; refine (gexpire_nil _ _).mono ?_; rintro e w8 ⟨rfl, h⟩; have s8 := s7.out.step h; clear a1 a2 a3 a4 a5 a6; obtain ⟨a1, a2, a3, a4, a5, a6⟩ := s8.cells; have s8 := Lib.hid s8; clear s7 h)
    | (go_at_call 12; refine (gtask_nil _ _).mono ?_; unfold zeroTask; rintro e w9 ⟨rfl, h⟩; have s9 := s8.out.step h; clear a1 a2 a3 a4 a5 a6; obtain ⟨a1, a2, a3, a4, a5, a6⟩ := s9.cells; have s9 := Lib.hid s9; clear s8 h)
    | (go_at_call 41; refine (gscope_nil _ _).mono ?_; unfold zeroScope; rintro e w10 ⟨rfl, h⟩; have s10 := (s9.out.alloc _).step h; clear a1 a2 a3 a4 a5 a6; obtain ⟨a1, a2, a3, a4, a5, a6⟩ := s10.cells; have s10 := Lib.hid s10; clear s9 h)
    | (go_at_call 14; refine (gchain_nil _ _).mono ?_; rintro e w11 ⟨rfl, h⟩; have s11 := (s10.out.alloc _).step h; clear a1 a2 a3 a4 a5 a6; obtain ⟨a1, a2, a3, a4, a5, a6⟩ := s11.cells; have s11 := Lib.hid s11; clear s10 h)
    | (go_at_call 13; refine (gbelow_nil _ _).mono ?_; rintro e w12 ⟨rfl, h⟩; have s12 := s11.out.step h; clear a1 a2 a3 a4 a5 a6; obtain ⟨a1, a2, a3, a4, a5, a6⟩ := s12.cells; have s12 := Lib.hid s12; clear s11 h))
  have sx : Hid (OpAt w w12.drew kd n m b f) := s12.out.step (Below.refl _ _).drew
  have b1 : w12.drew.cell? ⟨w.heap.size, 1, none⟩ = some (.int .i64 n) := sx.out.cells.1
  clear a2 a3 a4 a5
  go_region_held3 (fun W => W.cell? ⟨w.heap.size, 1, none⟩ = some (.int .i64 n)) (first | assumption | go_keep) (first
    | (go_at_call 24; refine (gshield_nil _ _).mono ?_; rintro e w13 ⟨rfl, h⟩; have s13 := sx.out.step h; have a13 := s13.cells.1; have sx := Lib.hid s13; clear s13 h)
    | (go_at_call 25; refine (gunveil_nil _ _).mono ?_; rintro e w14 ⟨rfl, h⟩; have s14 := sx.out.step h; have a14 := s14.cells.1; have sx := Lib.hid s14; clear s14 h))
  have sA : Hid (OpAt w (w14.alloc (.cells #[.int .i64 2, .int .i64 2, .int .i64 2, .int .i64 2, .int .i64 2, .int .i64 2, .int .i64 2, .int .i64 2, .int .i64 2, .int .i64 2, .int .i64 2, .int .i64 2, .int .i64 2, .int .i64 2] 33)) kd n m b f) := sx.out.alloc _
  have hB := Blk.new w14 33 #[.int .i64 2, .int .i64 2, .int .i64 2, .int .i64 2, .int .i64 2, .int .i64 2, .int .i64 2, .int .i64 2, .int .i64 2, .int .i64 2, .int .i64 2, .int .i64 2, .int .i64 2, .int .i64 2]
  have hC : Hid (∀ k : Nat, k < 14 → (w14.alloc (.cells #[.int .i64 2, .int .i64 2, .int .i64 2, .int .i64 2, .int .i64 2, .int .i64 2, .int .i64 2, .int .i64 2, .int .i64 2, .int .i64 2, .int .i64 2, .int .i64 2, .int .i64 2, .int .i64 2] 33)).cell? ⟨w14.heap.size, k, none⟩ = some (.int .i64 2)) := fun k hk => by
    rcases (by omega : k = 0 ∨ k = 1 ∨ k = 2 ∨ k = 3 ∨ k = 4 ∨ k = 5 ∨ k = 6 ∨ k = 7 ∨ k = 8 ∨ k = 9 ∨ k = 10 ∨ k = 11 ∨ k = 12 ∨ k = 13) with rfl | rfl | rfl | rfl | rfl | rfl | rfl | rfl | rfl | rfl | rfl | rfl | rfl | rfl <;> exact hB.cell _ rfl
  have b0 := sA.out.cells.1
  clear hB b1 a13 a14 s12 sx a1 a6
  generalize w14.alloc (.cells #[.int .i64 2, .int .i64 2, .int .i64 2, .int .i64 2, .int .i64 2, .int .i64 2, .int .i64 2, .int .i64 2, .int .i64 2, .int .i64 2, .int .i64 2, .int .i64 2, .int .i64 2, .int .i64 2] 33) = W0 at *
  go_wp2_with fail
  go_loop [148] (fun i => ∃ k : Nat, k ≤ 14 ∧ i = .int .i64 k) (fun i => 14 - (intOf i).toNat)
  case atStart => exact ⟨0, Nat.zero_le _, rfl⟩
  case round =>
    obtain ⟨k, hk, rfl⟩ := hrel
    by_cases hlt : k < 14
    · have hck := hC.out k hlt
      go_wp2
      go_round
      case rel => exact ⟨k + 1, by omega, by go_num⟩
      case measure => simp [intOf]; omega
    · obtain rfl : k = 14 := by omega
      go_wp2_with (first
        | (go_at_call 26; refine (gnext_nil _).mono ?_; rintro e w20 ⟨rfl, h⟩; have s20 := sA.out.step h; have a1 := s20.cells.1; have s20 := Lib.hid s20; clear h)
        | (go_at_call 29; refine (gdeadline_nil _ _).mono ?_; rintro e w21 ⟨rfl, h⟩; have s21 := s20.out.step h; have b1 := s21.cells.1; have s21 := Lib.hid s21; clear h)
        | (go_at_call 18; refine (gpending_nil _ _).mono ?_; rintro e w22 ⟨rfl, h⟩; have s22 := Lib.hid (s21.out.step h); clear h)
        | (go_at_call 31; refine (gcopy_nil _).mono ?_; rintro e w23 ⟨rfl, h⟩; have s23 := Lib.hid (s22.out.step h); clear h)
        | (go_at_call 10; refine (gawake _).mono ?_; rintro e w24 ⟨rfl, h⟩; have s24 := Lib.hid (s23.out.step h); clear h))
      go_returns
      exact ⟨rfl, s24.out.below⟩

end Go.Proofs.Ytoonkidlbnndcaa
