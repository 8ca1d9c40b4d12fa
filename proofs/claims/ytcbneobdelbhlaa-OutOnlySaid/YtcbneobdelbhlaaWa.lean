/-
  Walks of packages wire, num: widths, Size, Take of a number.
-/
import Derived.Test.YtcbneobdelbhlaaRg
import Derived.Test.YtcbneobdelbhlaaEa
import Derived.LoopN
namespace Go.Proofs.Ytcbneobdelbhlaa
open Go.RowKit

set_option maxHeartbeats 400000 in
theorem widths_1 (w : World) : Calls Try.prog 41 #[.int .u8 1] w fun e w' => e = .returned (.slice (some ⟨w.heap.size, 0, none⟩) 6 6) ∧ w.alloc (.cells #[.int .i64 6, .int .i64 1, .int .i64 3, .int .i64 1, .int .i64 4, .int .i64 4] 3) = w' := by
  go_enter Try.func41, Try.ntmps41
  go_wp2
  go_ret
  exact ⟨rfl, rfl⟩

set_option maxHeartbeats 400000 in
theorem widths_2 (w : World) : Calls Try.prog 41 #[.int .u8 2] w fun e w' => e = .returned (.slice (some ⟨w.heap.size, 0, none⟩) 2 2) ∧ w.alloc (.cells #[.int .i64 1, .int .i64 6] 3) = w' := by
  go_enter Try.func41, Try.ntmps41
  go_wp2
  go_ret
  exact ⟨rfl, rfl⟩

set_option maxHeartbeats 400000 in
theorem widths_0 (k : Int) (h1 : k ≠ 1) (h2 : k ≠ 2) (w : World) : Calls Try.prog 41 #[.int .u8 k] w fun e w' => e = .returned (.slice none 0 0) ∧ w = w' := by
  go_enter Try.func41, Try.ntmps41
  go_wp2
  go_ret
  exact ⟨rfl, rfl⟩

set_option maxHeartbeats 1000000 in
theorem size_1 (w : World) : Calls Try.prog 40 #[.int .u8 1] w fun e w' => e = .returned (.int .i64 20) ∧ Below w.heap.size w w' := by
  go_enter Try.func40, Try.ntmps40
  go_wp2_with (go_at_call 41; refine (widths_1 _).mono ?_; rintro e w1 ⟨rfl, rfl⟩)
  refine wp_loop_rounds 7 ?_
  rw [rounds_succ]; go_wp2
  rw [rounds_succ]; go_wp2
  rw [rounds_succ]; go_wp2
  rw [rounds_succ]; go_wp2
  rw [rounds_succ]; go_wp2
  rw [rounds_succ]; go_wp2
  rw [rounds_succ]; go_wp2
  go_ret
  exact ⟨rfl, (Below.refl _ _).alloc (Nat.le_refl _) _⟩

set_option maxHeartbeats 1000000 in
theorem size_2 (w : World) : Calls Try.prog 40 #[.int .u8 2] w fun e w' => e = .returned (.int .i64 8) ∧ Below w.heap.size w w' := by
  go_enter Try.func40, Try.ntmps40
  go_wp2_with (go_at_call 41; refine (widths_2 _).mono ?_; rintro e w1 ⟨rfl, rfl⟩)
  refine wp_loop_rounds 3 ?_
  rw [rounds_succ]; go_wp2
  rw [rounds_succ]; go_wp2
  rw [rounds_succ]; go_wp2
  go_ret
  exact ⟨rfl, (Below.refl _ _).alloc (Nat.le_refl _) _⟩

set_option maxHeartbeats 1000000 in
theorem size_0 (k : Int) (h1 : k ≠ 1) (h2 : k ≠ 2) (w : World) : Calls Try.prog 40 #[.int .u8 k] w fun e w' => e = .returned (.int .i64 0) ∧ Below w.heap.size w w' := by
  have H := Lib.hid (widths_0 k h1 h2)
  go_enter Try.func40, Try.ntmps40
  go_wp2_with (go_at_call 41; refine (H.out _).mono ?_; rintro e w1 ⟨rfl, rfl⟩)
  refine wp_loop_rounds 1 ?_
  rw [rounds_succ]; go_wp2
  go_ret
  exact ⟨rfl, Below.refl _ _⟩

end Go.Proofs.Ytcbneobdelbhlaa
