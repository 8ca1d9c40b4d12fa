/-
  Walks of package event and of the reference 03: the same events.
-/
import Derived.Test.YtcbneobdelbhlaaEa
import Derived.Test.YtcbneobdelbhlaaQm
namespace Go.Proofs.Ytcbneobdelbhlaa
open Go.RowKit

theorem bcell {W w1 : World} (hb : Below W.heap.size W w1) : (∀ b o, b < W.heap.size → w1.cell? ⟨b, o, none⟩ = W.cell? ⟨b, o, none⟩) ∧ (∀ b o, b < W.heap.size → w1.frozen? ⟨b, o, none⟩ = W.frozen? ⟨b, o, none⟩) :=
  ⟨fun b o h => hb.cell (p := ⟨b, o, none⟩) h, fun b o h => hb.frozen (p := ⟨b, o, none⟩) h⟩

@[go_sem high] theorem arr3_eql (a1 a2 a3 b1 b2 b3 : Int) (w : World) :
    (binOp .eql 114 (.agg #[.int .i64 a1, .int .i64 a2, .int .i64 a3]) (.agg #[.int .i64 b1, .int .i64 b2, .int .i64 b3])).run Try.prog w = .ok (.bool (a1 == b1 && a2 == b2 && a3 == b3)) w := by
  rw [run_eql_struct]
  have h1 : Try.prog.underlying 114 = some (.array 3 3) := by kernel_rfl
  have e : ∀ d a b, (Op.equalIn (d+1) 3 (.int .i64 a) (.int .i64 b)).run Try.prog w = .ok (a == b) w := fun d a b => run_equalIn_int w d 3 .i64 .i64 a b Try.underlying3
  have hs : (sizeOf 3).run Try.prog w = .ok 1 w := by kernel_rfl
  have p0 : ∀ (x y z : Int), (part 3 #[.int .i64 x, .int .i64 y, .int .i64 z] (0 * 1)).run Try.prog w = .ok (.int .i64 x) w := fun _ _ _ => by kernel_rfl
  have p1 : ∀ (x y z : Int), (part 3 #[.int .i64 x, .int .i64 y, .int .i64 z] (1 * 1)).run Try.prog w = .ok (.int .i64 y) w := fun _ _ _ => by kernel_rfl
  have p2 : ∀ (x y z : Int), (part 3 #[.int .i64 x, .int .i64 y, .int .i64 z] (2 * 1)).run Try.prog w = .ok (.int .i64 z) w := fun _ _ _ => by kernel_rfl
  have hr : List.range' 0 3 = [0, 1, 2] := by decide
  rw [Op.equalIn]
  simp only [Sem.run_bind, run_underlying h1, Result.andThen_ok, hs, Std.Legacy.Range.forIn_eq_forIn_range', Std.Legacy.Range.size]
  simp only [Nat.sub_zero, Nat.reduceAdd, Nat.add_one_sub_one, Nat.div_one, hr, List.forIn_cons, Sem.run_bind, p0, Result.andThen_ok, e]
  generalize (a1 == b1) = x1 at *
  have e2 := e 9998 a2 b2
  have e3 := e 9998 a3 b3
  generalize (a2 == b2) = x2 at *
  generalize (a3 == b3) = x3 at *
  cases x1 <;> cases x2 <;> cases x3 <;> simp only [Bool.not_true, Bool.not_false, Bool.false_eq_true, if_true, if_false, Sem.run_bind, Sem.run_pure, Result.andThen_ok, p1, p2, e2, e3, List.forIn_nil, Bool.and_true, Bool.and_false]
theorem guard114 : Try.prog.eqGuardType Try.prog.depth 114 = false := by kernel_rfl
@[go_sem high] theorem arr3_guard (op : BinOp) (x y : Operand) (xs ys : Array Value) (w : World) : (eqGuard op 114 x y (.agg xs) (.agg ys)).run Try.prog w = .ok () w := run_eqGuard_agg w op 114 x y xs ys guard114

set_option maxHeartbeats 1000000 in
theorem eventSame_tt (a1 a2 a3 a4 : Int) (ar ai br bi : Nat) (p : Bool) (w : World)
    (h : ∀ w, Calls Try.prog 36 #[.complex .f64 ar ai, .complex .f64 br bi] w fun e w' => e = .returned (.bool p) ∧ w = w') :
    Calls Try.prog 102 #[.agg #[.int .i64 a1, .int .i64 a2, .int .i64 a3, .int .i64 a4, .complex .f64 ar ai], .agg #[.int .i64 a1, .int .i64 a2, .int .i64 a3, .int .i64 a4, .complex .f64 br bi]] w fun e w' =>
      e = .returned (.bool p) ∧ Below w.heap.size w w' := by
  have H := Lib.hid h
  clear h
  go_enter Try.func102, Try.ntmps102
  go_wp2
  refine wp_region_mix (by kernel_rfl) (by kernel_rfl) ?_
  repeat quiet_step ((first
      | (go_at_call 114; exact Calls.mix_of (key_any _ _ _ _ _ _ _))
      | (go_at_call 36; exact Calls.mix_same (H.out _))))
  refine wpQuiet_nil ?_
  rintro _ ⟨x, rfl⟩
  go_wp2
  go_ret
  exact ⟨rfl, (((Below.refl _ _).alloc (Nat.le_refl _) _).alloc (by simp) _).trans ((mix_below _ _).mono (by simp; omega))⟩

set_option maxHeartbeats 1000000 in
theorem eventSame_tf (a1 a2 a3 a4 b4 : Int) (ar ai br bi : Nat) (w : World) (h : (a4 == b4) = false) :
    Calls Try.prog 102 #[.agg #[.int .i64 a1, .int .i64 a2, .int .i64 a3, .int .i64 a4, .complex .f64 ar ai], .agg #[.int .i64 a1, .int .i64 a2, .int .i64 a3, .int .i64 b4, .complex .f64 br bi]] w fun e w' =>
      e = .returned (.bool false) ∧ Below w.heap.size w w' := by
  go_enter Try.func102, Try.ntmps102
  go_wp2
  refine wp_region_mix (by kernel_rfl) (by kernel_rfl) ?_
  repeat quiet_step ((first
      | (go_at_call 114; exact Calls.mix_of (key_any _ _ _ _ _ _ _))))
  refine wpQuiet_nil ?_
  rintro _ ⟨x, rfl⟩
  go_wp2
  go_ret
  exact ⟨rfl, (((Below.refl _ _).alloc (Nat.le_refl _) _).alloc (by simp) _).trans ((mix_below _ _).mono (by simp; omega))⟩

set_option maxHeartbeats 1000000 in
theorem eventSame_ff (a1 a2 a3 a4 b1 b2 b3 b4 : Int) (ar ai br bi : Nat) (w : World) (h : (a1 == b1 && a2 == b2 && a3 == b3) = false) :
    Calls Try.prog 102 #[.agg #[.int .i64 a1, .int .i64 a2, .int .i64 a3, .int .i64 a4, .complex .f64 ar ai], .agg #[.int .i64 b1, .int .i64 b2, .int .i64 b3, .int .i64 b4, .complex .f64 br bi]] w fun e w' =>
      e = .returned (.bool false) ∧ Below w.heap.size w w' := by
  go_enter Try.func102, Try.ntmps102
  go_wp2
  refine wp_region_mix (by kernel_rfl) (by kernel_rfl) ?_
  repeat quiet_step ((first
      | (go_at_call 114; exact Calls.mix_of (key_any _ _ _ _ _ _ _))))
  refine wpQuiet_nil ?_
  rintro _ ⟨x, rfl⟩
  go_wp2
  go_ret
  exact ⟨rfl, (((Below.refl _ _).alloc (Nat.le_refl _) _).alloc (by simp) _).trans ((mix_below _ _).mono (by simp; omega))⟩

set_option maxHeartbeats 1000000 in
theorem reventSame_tt (a1 a2 a3 a4 : Int) (ar ai br bi : Nat) (p : Bool) (w : World)
    (h : ∀ w, Calls Try.prog 78 #[.complex .f64 ar ai, .complex .f64 br bi] w fun e w' => e = .returned (.bool p) ∧ w = w') :
    Calls Try.prog 47 #[.agg #[.int .i64 a1, .int .i64 a2, .int .i64 a3, .int .i64 a4, .complex .f64 ar ai], .agg #[.int .i64 a1, .int .i64 a2, .int .i64 a3, .int .i64 a4, .complex .f64 br bi]] w fun e w' =>
      e = .returned (.bool p) ∧ Below w.heap.size w w' := by
  have H := Lib.hid h
  clear h
  go_enter Try.func47, Try.ntmps47
  go_wp2
  refine wp_region_mix (by kernel_rfl) (by kernel_rfl) ?_
  repeat quiet_step ((first
      | (go_at_call 77; exact Calls.mix_of (rkey_any _ _ _ _ _ _ _))
      | (go_at_call 78; exact Calls.mix_same (H.out _))))
  refine wpQuiet_nil ?_
  rintro _ ⟨x, rfl⟩
  go_wp2
  go_ret
  exact ⟨rfl, (((Below.refl _ _).alloc (Nat.le_refl _) _).alloc (by simp) _).trans ((mix_below _ _).mono (by simp; omega))⟩

set_option maxHeartbeats 1000000 in
theorem reventSame_tf (a1 a2 a3 a4 b4 : Int) (ar ai br bi : Nat) (w : World) (h : (a4 == b4) = false) :
    Calls Try.prog 47 #[.agg #[.int .i64 a1, .int .i64 a2, .int .i64 a3, .int .i64 a4, .complex .f64 ar ai], .agg #[.int .i64 a1, .int .i64 a2, .int .i64 a3, .int .i64 b4, .complex .f64 br bi]] w fun e w' =>
      e = .returned (.bool false) ∧ Below w.heap.size w w' := by
  go_enter Try.func47, Try.ntmps47
  go_wp2
  refine wp_region_mix (by kernel_rfl) (by kernel_rfl) ?_
  repeat quiet_step ((first
      | (go_at_call 77; exact Calls.mix_of (rkey_any _ _ _ _ _ _ _))))
  refine wpQuiet_nil ?_
  rintro _ ⟨x, rfl⟩
  go_wp2
  go_ret
  exact ⟨rfl, (((Below.refl _ _).alloc (Nat.le_refl _) _).alloc (by simp) _).trans ((mix_below _ _).mono (by simp; omega))⟩

set_option maxHeartbeats 1000000 in
theorem reventSame_ff (a1 a2 a3 a4 b1 b2 b3 b4 : Int) (ar ai br bi : Nat) (w : World) (h : (a1 == b1 && a2 == b2 && a3 == b3) = false) :
    Calls Try.prog 47 #[.agg #[.int .i64 a1, .int .i64 a2, .int .i64 a3, .int .i64 a4, .complex .f64 ar ai], .agg #[.int .i64 b1, .int .i64 b2, .int .i64 b3, .int .i64 b4, .complex .f64 br bi]] w fun e w' =>
      e = .returned (.bool false) ∧ Below w.heap.size w w' := by
  go_enter Try.func47, Try.ntmps47
  go_wp2
  refine wp_region_mix (by kernel_rfl) (by kernel_rfl) ?_
  repeat quiet_step ((first
      | (go_at_call 77; exact Calls.mix_of (rkey_any _ _ _ _ _ _ _))))
  refine wpQuiet_nil ?_
  rintro _ ⟨x, rfl⟩
  go_wp2
  go_ret
  exact ⟨rfl, (((Below.refl _ _).alloc (Nat.le_refl _) _).alloc (by simp) _).trans ((mix_below _ _).mono (by simp; omega))⟩

/-- Two events with points of whole parts are the same just if all numbers are. -/
theorem eventSame_Pt {a1 a2 a3 a4 b1 b2 b3 b4 x y u v : Int} {ar ai br bi : Nat} (ha : Pt ar ai x y) (hb : Pt br bi u v) (w : World) :
    Calls Try.prog 102 #[.agg #[.int .i64 a1, .int .i64 a2, .int .i64 a3, .int .i64 a4, .complex .f64 ar ai], .agg #[.int .i64 b1, .int .i64 b2, .int .i64 b3, .int .i64 b4, .complex .f64 br bi]] w fun e w' =>
      e = .returned (.bool (decide (a1 = b1 ∧ a2 = b2 ∧ a3 = b3 ∧ a4 = b4 ∧ x = u ∧ y = v))) ∧ Below w.heap.size w w' := by
  by_cases hk : a1 = b1 ∧ a2 = b2 ∧ a3 = b3
  · obtain ⟨rfl, rfl, rfl⟩ := hk
    by_cases h4 : a4 = b4
    · subst h4
      refine (eventSame_tt a1 a2 a3 a4 ar ai br bi _ w (same_Pt ha hb)).mono ?_
      rintro e w' ⟨rfl, h⟩
      exact ⟨ret_bool (by simp), h⟩
    · refine (eventSame_tf a1 a2 a3 a4 b4 ar ai br bi w (by simpa using h4)).mono ?_
      rintro e w' ⟨rfl, h⟩
      exact ⟨ret_bool (by simp [h4]), h⟩
  · refine (eventSame_ff a1 a2 a3 a4 b1 b2 b3 b4 ar ai br bi w (by simp only [Bool.and_eq_false_iff, beq_eq_false_iff_ne]; omega)).mono ?_
    rintro e w' ⟨rfl, h⟩
    exact ⟨ret_bool (by rw [eq_comm, decide_eq_false_iff_not]; exact fun h => hk ⟨h.1, h.2.1, h.2.2.1⟩), h⟩

theorem reventSame_Pt {a1 a2 a3 a4 b1 b2 b3 b4 x y u v : Int} {ar ai br bi : Nat} (ha : Pt ar ai x y) (hb : Pt br bi u v) (w : World) :
    Calls Try.prog 47 #[.agg #[.int .i64 a1, .int .i64 a2, .int .i64 a3, .int .i64 a4, .complex .f64 ar ai], .agg #[.int .i64 b1, .int .i64 b2, .int .i64 b3, .int .i64 b4, .complex .f64 br bi]] w fun e w' =>
      e = .returned (.bool (decide (a1 = b1 ∧ a2 = b2 ∧ a3 = b3 ∧ a4 = b4 ∧ x = u ∧ y = v))) ∧ Below w.heap.size w w' := by
  by_cases hk : a1 = b1 ∧ a2 = b2 ∧ a3 = b3
  · obtain ⟨rfl, rfl, rfl⟩ := hk
    by_cases h4 : a4 = b4
    · subst h4
      refine (reventSame_tt a1 a2 a3 a4 ar ai br bi _ w (rsame_Pt ha hb)).mono ?_
      rintro e w' ⟨rfl, h⟩
      exact ⟨ret_bool (by simp), h⟩
    · refine (reventSame_tf a1 a2 a3 a4 b4 ar ai br bi w (by simpa using h4)).mono ?_
      rintro e w' ⟨rfl, h⟩
      exact ⟨ret_bool (by simp [h4]), h⟩
  · refine (reventSame_ff a1 a2 a3 a4 b1 b2 b3 b4 ar ai br bi w (by simp only [Bool.and_eq_false_iff, beq_eq_false_iff_ne]; omega)).mono ?_
    rintro e w' ⟨rfl, h⟩
    exact ⟨ret_bool (by rw [eq_comm, decide_eq_false_iff_not]; exact fun h => hk ⟨h.1, h.2.1, h.2.2.1⟩), h⟩

end Go.Proofs.Ytcbneobdelbhlaa
