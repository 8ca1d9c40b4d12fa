/-
  The law's own wakes of package plane, and PlaneSquares' walk.
-/
import Derived.Test.YtcbneobdelbhlaaPc
namespace Go.Proofs.Ytcbneobdelbhlaa
open Go.RowKit Go.Shelf

theorem half_trunc (w : World) : (callFunc 109 #[.float .f64 4602678819172646912]).run Try.prog w = .ok (.value (.float .f64 0)) w := by
  have h : FloatKind.f64.decode 4602678819172646912 = .number false 4503599627370496 (-53) := by kernel_rfl
  rw [run109_num h]
  have : FloatKind.f64.encode ((FloatKind.f64.decode 4602678819172646912).integral .zero) = 0 := by kernel_rfl
  rw [this]

theorem half_whole (w : World) : Calls Try.prog 70 #[.float .f64 4602678819172646912] w fun e w' => e = .returned (.bool false) ∧ w = w' :=
  (whole_core 4602678819172646912 0 true false w (by decide) half_trunc (by kernel_rfl) (by kernel_rfl)).mono (by rintro e w' ⟨rfl, rfl⟩; simp)

theorem FI_3 : FI 4613937818241073152 3 := by
  have := FI_ofInt (n := 3) (by decide)
  rwa [show FloatKind.f64.nearest 3 = 4613937818241073152 by kernel_rfl] at this
theorem FI_4 : FI 4616189618054758400 4 := by
  have := FI_ofInt (n := 4) (by decide)
  rwa [show FloatKind.f64.nearest 4 = 4616189618054758400 by kernel_rfl] at this
theorem FI_1 : FI 4607182418800017408 1 := by
  have := FI_ofInt (n := 1) (by decide)
  rwa [show FloatKind.f64.nearest 1 = 4607182418800017408 by kernel_rfl] at this
theorem FI_2 : FI 4611686018427387904 2 := by
  have := FI_ofInt (n := 2) (by decide)
  rwa [show FloatKind.f64.nearest 2 = 4611686018427387904 by kernel_rfl] at this
theorem FI_0 : FI 0 0 := by
  have := FI_ofInt (n := 0) (by decide)
  rwa [show FloatKind.f64.nearest 0 = 0 by kernel_rfl] at this
theorem FI_m7 : FI 13842939354630062080 (-7) := by
  have := FI_ofInt (n := -7) (by decide)
  rwa [show FloatKind.f64.nearest (-7) = 13842939354630062080 by kernel_rfl] at this
theorem FI_9 : FI 4621256167635550208 9 := by
  have := FI_ofInt (n := 9) (by decide)
  rwa [show FloatKind.f64.nearest 9 = 4621256167635550208 by kernel_rfl] at this

theorem half_right (im : Nat) (w : World) (n : Int) (h : FI im n) : Calls Try.prog 35 #[.complex .f64 4602678819172646912 im] w fun e w' => e = .returned (.bool false) ∧ w = w' :=
  (right_core _ im false _ w half_whole (whole_FI h)).mono (by rintro e w' ⟨rfl, rfl⟩; simp)

set_option maxHeartbeats 400000 in
theorem half_X (im : Nat) (w : World) (n : Int) (h : FI im n) : Calls Try.prog 33 #[.complex .f64 4602678819172646912 im] w fun e w' => e = .returned (.int .i64 0) ∧ w = w' := by
  have H1 := Lib.hid (fun w => half_right im w n h)
  have hc := conv_FI FI_0
  clear h
  go_enter Try.func33, Try.ntmps33
  go_wp2_with (first | (go_at_call 35; refine (H1.out _).mono ?_; rintro e w' ⟨rfl, rfl⟩) | go_in)
  go_ret
  exact ⟨rfl, rfl⟩

set_option maxHeartbeats 1000000 in
theorem wakes02 (w : World) : Calls Try.prog 9 #[] w fun e w' => e = .returned (.bool true) ∧ Below w.heap.size w w' := by
  have p79 : Pt (fb (-7)) (fb 9) (-7) 9 := Pt_fb (by decide) (by decide)
  have p12 : Pt 4607182418800017408 4611686018427387904 1 2 := ⟨FI_1, FI_2, by decide, by decide⟩
  have p34 : Pt 4613937818241073152 4616189618054758400 3 4 := ⟨FI_3, FI_4, by decide, by decide⟩
  have q79 : Pt 13842939354630062080 4621256167635550208 (-7) 9 := ⟨FI_m7, FI_9, by decide, by decide⟩
  have p0 : Pt 0 0 0 0 := ⟨FI_0, FI_0, by decide, by decide⟩
  have a1 := Lib.hid (make_in (-7) 9 (by decide) (by decide))
  have a2 := Lib.hid (make_out 1048577 0 (by decide))
  have a3 := Lib.hid (fun w => dot_Pt p12 p34 w)
  have a4 := Lib.hid (fun w => cross_Pt p12 p34 w)
  have a5 := Lib.hid turn_12
  have a6 := Lib.hid (fun w => norm_Pt p34 w)
  have a7 := Lib.hid (fun w => X_Pt p79 w)
  have a8 := Lib.hid (fun w => Y_Pt p79 w)
  have a9 := Lib.hid (fun w => right_Pt p79 w)
  have a10 := Lib.hid (fun w => half_right 0 w 0 FI_0)
  have a11 := Lib.hid (fun w => half_X 4613937818241073152 w 3 FI_3)
  have a12 := Lib.hid (fun w => same_Pt p79 q79 w)
  have a13 := Lib.hid (fun w => same_Pt p79 p0 w)
  clear p79 p12 p34 q79 p0
  generalize fb (-7) = A at *
  generalize fb 9 = B at *
  go_enter Try.func9, Try.ntmps9
  go_wp2_with (first
    | (go_at_call 10; (with_reducible refine (a1.out _).mono ?_); rintro e w' ⟨rfl, rfl⟩)
    | (go_at_call 10; (with_reducible refine (a2.out _).mono ?_); rintro e w' ⟨rfl, rfl⟩)
    | (go_at_call 12; (with_reducible refine (a3.out _).mono ?_); rintro e w' ⟨rfl, rfl⟩)
    | (go_at_call 13; (with_reducible refine (a4.out _).mono ?_); rintro e w' ⟨rfl, rfl⟩)
    | (go_at_call 32; (with_reducible refine (a5.out _).mono ?_); rintro e w1 ⟨rfl, hb1⟩; have hb := Lib.hid hb1; clear hb1)
    | (go_at_call 11; (with_reducible refine (a6.out _).mono ?_); rintro e w' ⟨rfl, rfl⟩)
    | (go_at_call 33; (with_reducible refine (a7.out _).mono ?_); rintro e w' ⟨rfl, rfl⟩)
    | (go_at_call 34; (with_reducible refine (a8.out _).mono ?_); rintro e w' ⟨rfl, rfl⟩)
    | (go_at_call 35; (with_reducible refine (a9.out _).mono ?_); rintro e w' ⟨rfl, rfl⟩)
    | (go_at_call 35; (with_reducible refine (a10.out _).mono ?_); rintro e w' ⟨rfl, rfl⟩)
    | (go_at_call 33; (with_reducible refine (a11.out _).mono ?_); rintro e w' ⟨rfl, rfl⟩)
    | (go_at_call 36; (with_reducible refine (a12.out _).mono ?_); rintro e w' ⟨rfl, rfl⟩)
    | (go_at_call 36; (with_reducible refine (a13.out _).mono ?_); rintro e w' ⟨rfl, rfl⟩))
  go_ret
  exact ⟨rfl, hb.out⟩

theorem min4 (x y u v : Int) : ∃ m : Int, (∀ ts t (w : World), (Builtin.min_ ts t #[.int .i64 x, .int .i64 y, .int .i64 u, .int .i64 v]).run Try.prog w = .ok (.int .i64 m) w) ∧ m ≤ x ∧ m ≤ y ∧ m ≤ u ∧ m ≤ v ∧ (m = x ∨ m = y ∨ m = u ∨ m = v) := by
  refine ⟨_, fun ts t w => by simp [Builtin.min_, Builtin.min2]; rfl, ?_⟩
  (repeat' split) <;> omega
theorem max4 (x y u v : Int) : ∃ m : Int, (∀ ts t (w : World), (Builtin.max_ ts t #[.int .i64 x, .int .i64 y, .int .i64 u, .int .i64 v]).run Try.prog w = .ok (.int .i64 m) w) ∧ x ≤ m ∧ y ≤ m ∧ u ≤ m ∧ v ≤ m ∧ (m = x ∨ m = y ∨ m = u ∨ m = v) := by
  refine ⟨_, fun ts t w => by simp [Builtin.max_, Builtin.max2]; rfl, ?_⟩
  (repeat' split) <;> omega

theorem mul_bd {a b : Int} (ha : -32768 ≤ a ∧ a ≤ 32768) (hb : -32768 ≤ b ∧ b ≤ 32768) : -1073741824 ≤ a * b ∧ a * b ≤ 1073741824 := by
  have := abs_mul_le (a := a) (b := b) (A := 32768) (B := 32768) (by omega) (by omega)
  omega

theorem wrap_add (a b : Int) : wrap64 (wrap64 a + wrap64 b) = wrap64 (a + b) := by
  unfold wrap64; omega

theorem squares_eq (x y u v : Int) : wrap64 (wrap64 ((x * u + y * v) * (x * u + y * v)) + wrap64 ((x * v - y * u) * (x * v - y * u))) = wrap64 ((x * x + y * y) * (u * u + v * v)) := by
  rw [wrap_add]
  congr 1
  grind

set_option maxHeartbeats 1000000 in
theorem squares_in (x y u v : Int) (w : World) (hx : -32768 ≤ x ∧ x ≤ 32768) (hy : -32768 ≤ y ∧ y ≤ 32768) (hu : -32768 ≤ u ∧ u ≤ 32768) (hv : -32768 ≤ v ∧ v ≤ 32768) :
    Calls Try.prog 3 #[.int .i64 x, .int .i64 y, .int .i64 u, .int .i64 v] w fun e w' => e = .returned (.bool true) ∧ Below w.heap.size w w' := by
  obtain ⟨m, hm, m1, m2, m3, m4, m5⟩ := min4 x y u v
  obtain ⟨M, hM, M1, M2, M3, M4, M5⟩ := max4 x y u v
  have pa : Pt (fb x) (fb y) x y := Pt_fb (by omega) (by omega)
  have pb : Pt (fb u) (fb v) u v := Pt_fb (by omega) (by omega)
  have a1 := Lib.hid (make_in x y (by omega) (by omega))
  have a2 := Lib.hid (make_in u v (by omega) (by omega))
  have a3 := Lib.hid (fun w => norm_Pt pa w)
  have a4 := Lib.hid (fun w => norm_Pt pb w)
  have a5 := Lib.hid (fun w => dot_Pt pa pa w)
  have a6 := Lib.hid (fun w => cross_Pt pa pa w)
  have a7 := Lib.hid (fun w => dot_Pt pa pb w)
  have a8 := Lib.hid (fun w => cross_Pt pa pb w)
  have a9 := Lib.hid (fun w => (dot_Pt pb pa w).mono (R' := fun e w' => e = .returned (.int .i64 (x * u + y * v)) ∧ w = w') (by rintro e w' ⟨rfl, rfl⟩; rw [Int.mul_comm u x, Int.mul_comm v y]; exact ⟨rfl, rfl⟩))
  have a10 := Lib.hid (fun w => (cross_Pt pb pa w).mono (R' := fun e w' => e = .returned (.int .i64 (-(x * v - y * u))) ∧ w = w') (by rintro e w' ⟨rfl, rfl⟩; rw [Int.mul_comm u y, Int.mul_comm v x, Int.neg_sub]; exact ⟨rfl, rfl⟩))
  have a11 := Lib.hid wakes02
  have b1 := mul_bd hx hx
  have b2 := mul_bd hy hy
  have b3 := mul_bd hx hu
  have b4 := mul_bd hy hv
  have b5 := mul_bd hx hv
  have b6 := mul_bd hy hu
  have f1 : (x * y - y * x != 0) = false := by rw [Int.mul_comm y x, Int.sub_self]; rfl
  have f2 := squares_eq x y u v
  have l1 : -32768 ≤ m := by omega
  have l2 : M ≤ 32768 := by omega
  clear pa pb m1 m2 m3 m4 m5 M1 M2 M3 M4 M5 hx hy hu hv
  generalize fb x = A at *
  generalize fb y = B at *
  generalize fb u = C at *
  generalize fb v = D at *
  go_enter Try.func3, Try.ntmps3
  go_wp2_with (first
    | (go_at_call 10; (with_reducible refine (a1.out _).mono ?_); rintro e w' ⟨rfl, rfl⟩)
    | (go_at_call 10; (with_reducible refine (a2.out _).mono ?_); rintro e w' ⟨rfl, rfl⟩)
    | (go_at_call 11; (with_reducible refine (a3.out _).mono ?_); rintro e w' ⟨rfl, rfl⟩)
    | (go_at_call 11; (with_reducible refine (a4.out _).mono ?_); rintro e w' ⟨rfl, rfl⟩)
    | (go_at_call 12; (with_reducible refine (a5.out _).mono ?_); rintro e w' ⟨rfl, rfl⟩)
    | (go_at_call 13; (with_reducible refine (a6.out _).mono ?_); rintro e w' ⟨rfl, rfl⟩)
    | (go_at_call 12; (with_reducible refine (a7.out _).mono ?_); rintro e w' ⟨rfl, rfl⟩)
    | (go_at_call 13; (with_reducible refine (a8.out _).mono ?_); rintro e w' ⟨rfl, rfl⟩)
    | (go_at_call 12; (with_reducible refine (a9.out _).mono ?_); rintro e w' ⟨rfl, rfl⟩)
    | (go_at_call 13; (with_reducible refine (a10.out _).mono ?_); rintro e w' ⟨rfl, rfl⟩)
    | (go_at_call 9; (with_reducible refine (a11.out _).mono ?_); rintro e w1 ⟨rfl, hb1⟩; have hb := Lib.hid hb1; clear hb1))
  go_ret
  exact ⟨rfl, hb.out⟩

set_option maxHeartbeats 1000000 in
theorem squares_out (x y u v : Int) (w : World) (h : ¬ ((-32768 ≤ x ∧ x ≤ 32768) ∧ (-32768 ≤ y ∧ y ≤ 32768) ∧ (-32768 ≤ u ∧ u ≤ 32768) ∧ (-32768 ≤ v ∧ v ≤ 32768))) :
    Calls Try.prog 3 #[.int .i64 x, .int .i64 y, .int .i64 u, .int .i64 v] w fun e w' => e = .returned (.bool true) ∧ Below w.heap.size w w' := by
  obtain ⟨m, hm, m1, m2, m3, m4, m5⟩ := min4 x y u v
  obtain ⟨M, hM, M1, M2, M3, M4, M5⟩ := max4 x y u v
  have a11 := Lib.hid wakes02
  have hl : m < -32768 ∨ (-32768 ≤ m ∧ 32768 < M) := by omega
  clear m1 m2 m3 m4 m5 M1 M2 M3 M4 M5 h
  rcases hl with hl | ⟨hl, hl2⟩
  all_goals
    go_enter Try.func3, Try.ntmps3
    go_wp2_with (go_at_call 9; (with_reducible refine (a11.out _).mono ?_); rintro e w1 ⟨rfl, hb1⟩; have hb := Lib.hid hb1; clear hb1)
    go_ret
    exact ⟨rfl, hb.out⟩

theorem squares_walk (x y u v : Int) (w : World) :
    Calls Try.prog 3 #[.int .i64 x, .int .i64 y, .int .i64 u, .int .i64 v] w fun e w' => e = .returned (.bool true) ∧ Below w.heap.size w w' := by
  by_cases h : (-32768 ≤ x ∧ x ≤ 32768) ∧ (-32768 ≤ y ∧ y ≤ 32768) ∧ (-32768 ≤ u ∧ u ≤ 32768) ∧ (-32768 ≤ v ∧ v ≤ 32768)
  · exact squares_in x y u v w h.1 h.2.1 h.2.2.1 h.2.2.2
  · exact squares_out x y u v w h

end Go.Proofs.Ytcbneobdelbhlaa
