/-
  Plain laws: a number's bytes, and back.
-/
import Derived.Test.YtcbneobdelbhlaaWf
namespace Go.Proofs.Ytcbneobdelbhlaa
open Go.RowKit

theorem shiftsOf_succ (k : Nat) : shiftsOf (k + 1) = (shiftsOf k).map (· + 8) ++ [0] := by
  unfold shiftsOf
  rw [List.range_succ, List.map_append, List.map_map]
  congr 1
  · apply List.map_congr_left
    intro j _
    simp only [Function.comp]
    omega
  · simp

theorem byteAt_step (n x s : Int) (h0 : 0 ≤ s) (hx : 0 ≤ x ∧ x ≤ 255) : byteAt (256 * n + x) (s + 8) = byteAt n s := by
  obtain ⟨t, rfl⟩ := Int.eq_ofNat_of_zero_le h0
  unfold byteAt
  have e : ((t : Int) + 8).toNat = t + 8 := by omega
  rw [e, Int.toNat_natCast, Int.pow_add, Int.mul_comm (2 ^ t), show ((2 : Int) ^ 8) = 256 from rfl, ← Int.ediv_ediv_of_nonneg (by omega : (0 : Int) ≤ 256)]
  congr 2
  omega

theorem shiftsOf_nonneg (k : Nat) : ∀ s ∈ shiftsOf k, 0 ≤ s := by
  intro s hs
  simp only [shiftsOf, List.mem_map, List.mem_range] at hs
  obtain ⟨j, hj, rfl⟩ := hs
  omega

theorem bytesOf_numOf : ∀ (zs : List Int), (∀ x ∈ zs, 0 ≤ x ∧ x ≤ 255) → bytesOf (numOf zs) zs.length = zs := by
  intro zs
  rw [← List.reverse_reverse zs]
  induction zs.reverse with
  | nil => intro _; rfl
  | cons x l ih =>
    intro h
    simp only [List.reverse_cons] at h ⊢
    have h1 := ih (fun y hy => h y (List.mem_append_left _ hy))
    have h2 := h x (List.mem_append_right _ (by simp))
    rw [numOf_snoc, List.length_append, List.length_singleton]
    unfold bytesOf at h1 ⊢
    rw [shiftsOf_succ, List.map_append, List.map_map]
    congr 1
    · refine Eq.trans (List.map_congr_left fun s hs => ?_) h1
      exact byteAt_step _ _ _ (shiftsOf_nonneg _ s hs) h2
    · simp [byteAt]
      omega

end Go.Proofs.Ytcbneobdelbhlaa
