/-
  Walks of package plane: Abs, Trunc, whole, Right, known, X, Y, times, Norm, Dot, Cross, Make.
-/
import Derived.Test.YtcbneobdelbhlaaFl
import Derived.Test.YtcbneobdelbhlaaBa
import Derived.Test.YtcbneobdelbhlaaProg
import Derived.WalkKit
import Derived.WalkSpells
import Derived.WalkLawsBesides
import Derived.Lib.Hide
namespace Go.Proofs.Ytcbneobdelbhlaa
open Go.RowKit

theorem run107 (n : Int) (w : World) : (callFunc 107 #[.int .u64 n]).run Try.prog w = .ok (.value (.float .f64 n.toNat)) w :=
  run_callFunc_extern Try.func107 (by kernel_rfl) (by kernel_rfl) (by kernel_rfl) (e := Extern.MathFloatBits.float64frombits) (by kernel_rfl) _ w
theorem run108 (b : Nat) (w : World) : (callFunc 108 #[.float .f64 b]).run Try.prog w = .ok (.value (.int .u64 b)) w :=
  run_callFunc_extern Try.func108 (by kernel_rfl) (by kernel_rfl) (by kernel_rfl) (e := Extern.MathFloatBits.float64bits) (by kernel_rfl) _ w
theorem run109 (args : Array Value) (w : World) : (callFunc 109 args).run Try.prog w = ((Extern.MathFloor.toIntegral "math.archTrunc" .zero args).run Try.prog w).andThen fun v w' => .ok (.value v) w' :=
  run_callFunc_extern Try.func109 (by kernel_rfl) (by kernel_rfl) (by kernel_rfl) (e := Extern.MathFloor.toIntegral "math.archTrunc" .zero) (by kernel_rfl) _ w

theorem run109_num {b : Nat} {s : Bool} {m : Nat} {e : Int} (h : FloatKind.f64.decode b = .number s m e) (w : World) :
    (callFunc 109 #[.float .f64 b]).run Try.prog w = .ok (.value (.float .f64 (FloatKind.f64.encode ((FloatKind.f64.decode b).integral .zero)))) w := by
  rw [run109]
  show Result.andThen (Sem.run Try.prog (match FloatKind.f64.decode b with
    | .nan s t =>
      if FloatKind.f64.format.quiet t = t then (pure (Value.float .f64 b) : Sem Value) else do
      let kept ← choose (.extern "math.Floor,Ceil,Trunc,RoundToEven.signallingNaN kept" 2)
      (pure (Value.float .f64 (if kept == 1 then b else FloatKind.f64.encode (.nan s (FloatKind.f64.format.quiet t)))) : Sem Value)
    | d => (pure (Value.float .f64 (FloatKind.f64.encode (d.integral .zero))) : Sem Value)) w) _ = _
  rw [h]
  rfl

theorem andNot63 (b : Nat) (h : b < 2 ^ 64) : bits .andNot .u64 (b : Int) 9223372036854775808 = ((b % 2 ^ 63 : Nat) : Int) := by
  have := u64_andNot_nat b 9223372036854775808 h (by decide)
  rw [show ((9223372036854775808 : Nat) : Int) = 9223372036854775808 from rfl] at this
  rw [this, ← Nat.and_two_pow_sub_one_eq_mod]

set_option maxHeartbeats 400000 in
theorem abs_any (b : Nat) (w : World) (hb : b < 2 ^ 64) :
    Calls Try.prog 92 #[.float .f64 b] w fun e w' => e = .returned (.float .f64 (b % 2 ^ 63)) ∧ w = w' := by
  have r1 := run107
  have r2 := run108
  have r3 := andNot63 b hb
  clear hb
  go_enter Try.func92, Try.ntmps92
  go_wp2_with fail
  go_ret
  exact ⟨rfl, rfl⟩

set_option maxHeartbeats 400000 in
theorem trunc_any (b r : Nat) (w : World) (h : ∀ w : World, (callFunc 109 #[.float .f64 b]).run Try.prog w = .ok (.value (.float .f64 r)) w) :
    Calls Try.prog 93 #[.float .f64 b] w fun e w' => e = .returned (.float .f64 r) ∧ w = w' := by
  go_enter Try.func93, Try.ntmps93
  go_wp2_with fail
  go_ret
  exact ⟨rfl, rfl⟩

set_option maxHeartbeats 400000 in
theorem whole_core (b r : Nat) (p q : Bool) (w : World) (hb : b < 2 ^ 64) (h : ∀ w : World, (callFunc 109 #[.float .f64 b]).run Try.prog w = .ok (.value (.float .f64 r)) w)
    (h1 : (FloatKind.f64.format.order (b % 2 ^ 63) 4697254411347427328 == some .lt || FloatKind.f64.format.order (b % 2 ^ 63) 4697254411347427328 == some .eq) = p)
    (h2 : (FloatKind.f64.format.order r b == some .eq) = q) :
    Calls Try.prog 70 #[.float .f64 b] w fun e w' => e = .returned (.bool (p && q)) ∧ w = w' := by
  have c1 := fun w => abs_any b w hb
  have c2 := fun w => trunc_any b r w h
  have H1 := Lib.hid c1
  have H2 := Lib.hid c2
  clear c1 c2 h hb
  generalize b % 2 ^ 63 = d at *
  cases p <;> cases q
  all_goals
    go_enter Try.func70, Try.ntmps70
    go_wp2_with (first | (go_at_call 92; refine (H1.out _).mono ?_; rintro e w' ⟨rfl, rfl⟩) | (go_at_call 93; refine (H2.out _).mono ?_; rintro e w' ⟨rfl, rfl⟩))
    go_ret
    exact ⟨rfl, rfl⟩

theorem FI_dec {b : Nat} {n : Int} (h : FI b n) : ∃ s m e, FloatKind.f64.decode b = .number s m e := by
  obtain ⟨s, k, h, _⟩ := h.1
  exact ⟨_, _, _, h⟩

theorem FI_max : FI 4697254411347427328 1048576 := by
  have := FI_ofInt (n := 1048576) (by decide)
  rwa [show FloatKind.f64.nearest 1048576 = 4697254411347427328 by kernel_rfl] at this

/-- Of a whole number 'whole' tells whether it is within. -/
theorem whole_FI {b : Nat} {n : Int} (h : FI b n) (w : World) :
    Calls Try.prog 70 #[.float .f64 b] w fun e w' => e = .returned (.bool (decide (n.natAbs ≤ 1048576))) ∧ w = w' := by
  obtain ⟨s, m, e, hd⟩ := FI_dec h
  have o1 := FI_order (FI_abs h) FI_max
  have o2 := FI_order (FI_trunc h) h
  refine (whole_core b _ (decide (n.natAbs ≤ 1048576)) true w h.2.2 (run109_num hd) ?_ ?_).mono ?_
  · rw [o1]
    by_cases hle : n.natAbs ≤ 1048576
    · simp only [hle, decide_true]
      rcases Int.lt_or_eq_of_le (show (n.natAbs : Int) ≤ 1048576 by omega) with hlt | heq
      · rw [Int.compare_eq_lt.2 hlt]; rfl
      · rw [Int.compare_eq_eq.2 heq]; rfl
    · simp only [hle, decide_false]
      rw [Int.compare_eq_gt.2 (by omega)]; rfl
  · rw [o2, Int.compare_eq_eq.2 rfl]; rfl
  · rintro e w' ⟨rfl, rfl⟩; simp

/-- A point of whole parts. -/
structure Pt (re im : Nat) (x y : Int) : Prop where
  re : FI re x
  im : FI im y
  hx : x.natAbs ≤ 1048576
  hy : y.natAbs ≤ 1048576

set_option maxHeartbeats 400000 in
theorem right_core (re im : Nat) (p q : Bool) (w : World)
    (h1 : ∀ w, Calls Try.prog 70 #[.float .f64 re] w fun e w' => e = .returned (.bool p) ∧ w = w')
    (h2 : ∀ w, Calls Try.prog 70 #[.float .f64 im] w fun e w' => e = .returned (.bool q) ∧ w = w') :
    Calls Try.prog 35 #[.complex .f64 re im] w fun e w' => e = .returned (.bool (p && q)) ∧ w = w' := by
  have H1 := Lib.hid h1
  have H2 := Lib.hid h2
  clear h1 h2
  cases p <;> cases q
  all_goals
    go_enter Try.func35, Try.ntmps35
    go_wp2_with (first | (go_at_call 70; (with_reducible refine (H1.out _).mono ?_); rintro e w' ⟨rfl, rfl⟩) | (go_at_call 70; (with_reducible refine (H2.out _).mono ?_); rintro e w' ⟨rfl, rfl⟩))
    go_ret
    exact ⟨rfl, rfl⟩

theorem right_Pt {re im : Nat} {x y : Int} (h : Pt re im x y) (w : World) :
    Calls Try.prog 35 #[.complex .f64 re im] w fun e w' => e = .returned (.bool true) ∧ w = w' := by
  refine (right_core re im true true w (fun w => ?_) (fun w => ?_)).mono ?_
  · exact (whole_FI h.re w).mono (by rintro e w' ⟨rfl, rfl⟩; simp [h.hx])
  · exact (whole_FI h.im w).mono (by rintro e w' ⟨rfl, rfl⟩; simp [h.hy])
  · rintro e w' ⟨rfl, rfl⟩; simp

set_option maxHeartbeats 400000 in
theorem known_Pt {re im : Nat} {x y : Int} (h : Pt re im x y) (w : World) :
    Calls Try.prog 68 #[.complex .f64 re im] w fun e w' => e = .returned (.complex .f64 re im) ∧ w = w' := by
  have H1 := Lib.hid (right_Pt h)
  clear h
  go_enter Try.func68, Try.ntmps68
  go_wp2_with (go_at_call 35; refine (H1.out _).mono ?_; rintro e w' ⟨rfl, rfl⟩)
  go_ret
  exact ⟨rfl, rfl⟩

theorem toInt_FI {b : Nat} {n : Int} (h : FI b n) : floatToIntVal .f64 b .i64 = some n := by
  unfold floatToIntVal
  rw [FI_toInt h]
  have := h.2.1
  have h1 : IntKind.i64.min = -9223372036854775808 := by decide
  have h2 : IntKind.i64.max = 9223372036854775807 := by decide
  have h3 : IntKind.i64.min ≤ n ∧ n ≤ IntKind.i64.max := by rw [h1, h2]; omega
  exact if_pos h3

theorem conv_FI {b : Nat} {n : Int} (h : FI b n) (w : World) : (convert 69 3 (.float .f64 b)).run Try.prog w = .ok (.int .i64 n) w :=
  run_convert_float_int w 69 3 .f64 .i64 b n (by kernel_rfl) Try.underlying3 (toInt_FI h)

set_option maxHeartbeats 400000 in
theorem X_Pt {re im : Nat} {x y : Int} (h : Pt re im x y) (w : World) :
    Calls Try.prog 33 #[.complex .f64 re im] w fun e w' => e = .returned (.int .i64 x) ∧ w = w' := by
  have H1 := Lib.hid (known_Pt h)
  have hc := conv_FI h.re
  clear h
  go_enter Try.func33, Try.ntmps33
  go_wp2_with (go_at_call 68; refine (H1.out _).mono ?_; rintro e w' ⟨rfl, rfl⟩)
  go_ret
  exact ⟨rfl, rfl⟩

set_option maxHeartbeats 400000 in
theorem Y_Pt {re im : Nat} {x y : Int} (h : Pt re im x y) (w : World) :
    Calls Try.prog 34 #[.complex .f64 re im] w fun e w' => e = .returned (.int .i64 y) ∧ w = w' := by
  have H1 := Lib.hid (known_Pt h)
  have hc := conv_FI h.im
  clear h
  go_enter Try.func34, Try.ntmps34
  go_wp2_with (go_at_call 68; refine (H1.out _).mono ?_; rintro e w' ⟨rfl, rfl⟩)
  go_ret
  exact ⟨rfl, rfl⟩

end Go.Proofs.Ytcbneobdelbhlaa
