/-
  Walks of package plane: times, Norm, Dot, Cross, Make.
-/
import Derived.Test.YtcbneobdelbhlaaPa
namespace Go.Proofs.Ytcbneobdelbhlaa
open Go.RowKit

theorem abs_mul_le {a b : Int} {A B : Nat} (ha : a.natAbs ≤ A) (hb : b.natAbs ≤ B) : (a * b).natAbs ≤ A * B := by
  rw [Int.natAbs_mul]; exact Nat.mul_le_mul ha hb

theorem cmul_FI {ar ai br bi : Nat} {x y u v : Int} (ha : Pt ar ai x y) (hb : Pt br bi u v) :
    ∃ re im, cMulBits ar (Op.negFloat .f64 ai) br bi = some (re, im) ∧ FI re (x * u + y * v) ∧ FI im (x * v - y * u) := by
  have m1 := abs_mul_le ha.hx hb.hx
  have m2 := abs_mul_le ha.hy hb.hy
  have m3 := abs_mul_le ha.hx hb.hy
  have m4 := abs_mul_le ha.hy hb.hx
  obtain ⟨ac, h1, f1⟩ := FI_mul ha.re hb.re (by omega)
  obtain ⟨bd, h2, f2⟩ := FI_mul (FI_neg ha.im) hb.im (by rw [Int.neg_mul]; omega)
  obtain ⟨ad, h3, f3⟩ := FI_mul ha.re hb.im (by omega)
  obtain ⟨bc, h4, f4⟩ := FI_mul (FI_neg ha.im) hb.re (by rw [Int.neg_mul]; omega)
  rw [Int.neg_mul] at f2 f4
  obtain ⟨re, h5, f5⟩ := FI_sub f1 f2 (by omega)
  obtain ⟨im, h6, f6⟩ := FI_add f3 f4 (by omega)
  refine ⟨re, im, ?_, by rw [Int.sub_neg] at f5; exact f5, by rw [← Int.sub_eq_add_neg] at f6; exact f6⟩
  have g1 : floatBits .mul .f64 ar br = some ac := h1
  have g2 : floatBits .mul .f64 (Op.negFloat .f64 ai) bi = some bd := h2
  have g3 : floatBits .sub .f64 ac bd = some re := h5
  have g4 : floatBits .mul .f64 ar bi = some ad := h3
  have g5 : floatBits .mul .f64 (Op.negFloat .f64 ai) br = some bc := h4
  have g6 : floatBits .add .f64 ad bc = some im := h6
  simp [cMulBits, g1, g2, g3, g4, g5, g6]

set_option maxHeartbeats 400000 in
theorem times_Pt {ar ai br bi re im : Nat} {x y u v : Int} (ha : Pt ar ai x y) (hb : Pt br bi u v) (h : cMulBits ar (Op.negFloat .f64 ai) br bi = some (re, im)) (w : World) :
    Calls Try.prog 37 #[.complex .f64 ar ai, .complex .f64 br bi] w fun e w' => e = .returned (.complex .f64 re im) ∧ w = w' := by
  have H1 := Lib.hid (known_Pt ha)
  have H2 := Lib.hid (known_Pt hb)
  have hn := unary_neg_float ai
  have hm := fun w : World => run_complex_mul (P := Try.prog) w 23 ar (Op.negFloat .f64 ai) br bi re im h
  clear ha hb h
  go_enter Try.func37, Try.ntmps37
  go_wp2_with (first | (go_at_call 68; (with_reducible refine (H1.out _).mono ?_); rintro e w' ⟨rfl, rfl⟩) | (go_at_call 68; (with_reducible refine (H2.out _).mono ?_); rintro e w' ⟨rfl, rfl⟩))
  go_ret
  exact ⟨rfl, rfl⟩

set_option maxHeartbeats 400000 in
theorem norm_Pt {ar ai : Nat} {x y : Int} (ha : Pt ar ai x y) (w : World) :
    Calls Try.prog 11 #[.complex .f64 ar ai] w fun e w' => e = .returned (.int .i64 (x * x + y * y)) ∧ w = w' := by
  obtain ⟨re, im, h, f1, f2⟩ := cmul_FI ha ha
  have H1 := Lib.hid (times_Pt ha ha h)
  have hc := conv_FI f1
  clear ha h f1 f2
  generalize x * x + y * y = n at *
  go_enter Try.func11, Try.ntmps11
  go_wp2_with (go_at_call 37; refine (H1.out _).mono ?_; rintro e w' ⟨rfl, rfl⟩)
  go_ret
  exact ⟨rfl, rfl⟩

set_option maxHeartbeats 400000 in
theorem dot_Pt {ar ai br bi : Nat} {x y u v : Int} (ha : Pt ar ai x y) (hb : Pt br bi u v) (w : World) :
    Calls Try.prog 12 #[.complex .f64 ar ai, .complex .f64 br bi] w fun e w' => e = .returned (.int .i64 (x * u + y * v)) ∧ w = w' := by
  obtain ⟨re, im, h, f1, f2⟩ := cmul_FI ha hb
  have H1 := Lib.hid (times_Pt ha hb h)
  have hc := conv_FI f1
  clear ha hb h f1 f2
  generalize x * u + y * v = n at *
  go_enter Try.func12, Try.ntmps12
  go_wp2_with (go_at_call 37; refine (H1.out _).mono ?_; rintro e w' ⟨rfl, rfl⟩)
  go_ret
  exact ⟨rfl, rfl⟩

set_option maxHeartbeats 400000 in
theorem cross_Pt {ar ai br bi : Nat} {x y u v : Int} (ha : Pt ar ai x y) (hb : Pt br bi u v) (w : World) :
    Calls Try.prog 13 #[.complex .f64 ar ai, .complex .f64 br bi] w fun e w' => e = .returned (.int .i64 (x * v - y * u)) ∧ w = w' := by
  obtain ⟨re, im, h, f1, f2⟩ := cmul_FI ha hb
  have H1 := Lib.hid (times_Pt ha hb h)
  have hc := conv_FI f2
  clear ha hb h f1 f2
  generalize x * v - y * u = n at *
  go_enter Try.func13, Try.ntmps13
  go_wp2_with (go_at_call 37; refine (H1.out _).mono ?_; rintro e w' ⟨rfl, rfl⟩)
  go_ret
  exact ⟨rfl, rfl⟩

/-- The word of a whole number. -/
def fb (n : Int) : Nat := FloatKind.f64.nearest n

theorem Pt_fb {x y : Int} (hx : x.natAbs ≤ 1048576) (hy : y.natAbs ≤ 1048576) : Pt (fb x) (fb y) x y :=
  ⟨FI_ofInt (by omega), FI_ofInt (by omega), hx, hy⟩

set_option maxHeartbeats 400000 in
theorem make_in (x y : Int) (hx : x.natAbs ≤ 1048576) (hy : y.natAbs ≤ 1048576) (w : World) :
    Calls Try.prog 10 #[.int .i64 x, .int .i64 y] w fun e w' => e = .returned (.tuple #[.complex .f64 (fb x) (fb y), .int .i64 0]) ∧ w = w' := by
  have h1 : -1048576 ≤ x := by omega
  have h2 : x ≤ 1048576 := by omega
  have h3 : -1048576 ≤ y := by omega
  have h4 : y ≤ 1048576 := by omega
  clear hx hy
  by_cases hxy : x < y <;> by_cases hyx : y < x
  all_goals first | omega | skip
  all_goals
    go_enter Try.func10, Try.ntmps10
    go_wp2
    go_step3
    go_wp2
    try rw [Exit.noGoto_ret]
    go_ret2
    exact ⟨rfl, rfl⟩

set_option maxHeartbeats 400000 in
theorem make_out (x y : Int) (h : ¬ (x.natAbs ≤ 1048576 ∧ y.natAbs ≤ 1048576)) (w : World) :
    Calls Try.prog 10 #[.int .i64 x, .int .i64 y] w fun e w' => e = .returned (.tuple #[.complex .f64 0 0, .int .i64 20]) ∧ w = w' := by
  by_cases h1 : 1048576 < x <;> by_cases h2 : 1048576 < y <;> by_cases h3 : x < -1048576 <;> by_cases h4 : y < -1048576 <;> by_cases hxy : x < y <;> by_cases hyx : y < x
  all_goals first | omega | skip
  all_goals
    clear h
    go_enter Try.func10, Try.ntmps10
    go_wp2
    refine wp_scope_goto 0 rfl ?_
    go_wp2
    go_step3
    refine ⟨rfl, ?_⟩
    go_wp2
    try rw [Exit.noGoto_ret]
    go_ret2
    exact ⟨rfl, rfl⟩

end Go.Proofs.Ytcbneobdelbhlaa
