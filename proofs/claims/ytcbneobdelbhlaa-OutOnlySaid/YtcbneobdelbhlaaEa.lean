/-
  Walks of package event and of the references 02, 03: which events may be; keys; the same.
-/
import Derived.Test.YtcbneobdelbhlaaPc
import Derived.RegionTactic
import Derived.ChangeAlike
import Derived.BigRegion
import Derived.Deep.QuietTactic
import Derived.BigQuiet
namespace Go.Proofs.Ytcbneobdelbhlaa
open Go.RowKit

theorem ret_bool {a b : Bool} (h : a = b) : Ending.returned (.bool a) = Ending.returned (.bool b) := by rw [h]

set_option maxHeartbeats 400000 in
theorem within_any (n m : Int) (w : World) :
    Calls Try.prog 86 #[.int .i64 n, .int .i64 m] w fun e w' => e = .returned (.bool (decide (0 ≤ n) && decide (n ≤ m))) ∧ w = w' := by
  by_cases h1 : 0 ≤ n <;> by_cases h2 : n ≤ m
  all_goals
    go_enter Try.func86, Try.ntmps86
    go_wp2
    go_ret
    refine ⟨ret_bool ?_, rfl⟩
    simp [h1, h2]

/-- Which events may be, its point being of whole parts within. -/
def evR (ts src seq kind : Int) : Bool :=
  decide (0 ≤ ts) && decide (ts ≤ 1099511627776) && (decide (0 ≤ src) && decide (src ≤ 3)) && (decide (0 ≤ seq) && decide (seq ≤ 1048576)) && (decide (0 ≤ kind) && decide (kind ≤ 5))

theorem evR_iff (ts src seq kind : Int) : evR ts src seq kind = true ↔ (0 ≤ ts ∧ ts ≤ 1099511627776) ∧ (0 ≤ src ∧ src ≤ 3) ∧ (0 ≤ seq ∧ seq ≤ 1048576) ∧ (0 ≤ kind ∧ kind ≤ 5) := by
  simp [evR, and_assoc]
theorem evR_yes {ts src seq kind : Int} (h : (0 ≤ ts ∧ ts ≤ 1099511627776) ∧ (0 ≤ src ∧ src ≤ 3) ∧ (0 ≤ seq ∧ seq ≤ 1048576) ∧ (0 ≤ kind ∧ kind ≤ 5)) : evR ts src seq kind = true := (evR_iff ..).2 h
theorem evR_no {ts src seq kind : Int} (h : ¬ ((0 ≤ ts ∧ ts ≤ 1099511627776) ∧ (0 ≤ src ∧ src ≤ 3) ∧ (0 ≤ seq ∧ seq ≤ 1048576) ∧ (0 ≤ kind ∧ kind ≤ 5))) : evR ts src seq kind = false := by
  rw [Bool.eq_false_iff]; exact fun e => h ((evR_iff ..).1 e)

set_option maxHeartbeats 1000000 in
theorem eventRight_core (ts src seq kind : Int) (re im : Nat) (p1 p2 p3 p4 : Bool) (w : World)
    (h1 : ∀ w, Calls Try.prog 86 #[.int .i64 ts, .int .i64 1099511627776] w fun e w' => e = .returned (.bool p1) ∧ w = w')
    (h2 : ∀ w, Calls Try.prog 86 #[.int .i64 src, .int .i64 3] w fun e w' => e = .returned (.bool p2) ∧ w = w')
    (h3 : ∀ w, Calls Try.prog 86 #[.int .i64 seq, .int .i64 1048576] w fun e w' => e = .returned (.bool p3) ∧ w = w')
    (h4 : ∀ w, Calls Try.prog 86 #[.int .i64 kind, .int .i64 5] w fun e w' => e = .returned (.bool p4) ∧ w = w')
    (h5 : ∀ w, Calls Try.prog 35 #[.complex .f64 re im] w fun e w' => e = .returned (.bool true) ∧ w = w') :
    Calls Try.prog 61 #[.agg #[.int .i64 ts, .int .i64 src, .int .i64 seq, .int .i64 kind, .complex .f64 re im]] w fun e w' => e = .returned (.bool (p1 && p2 && p3 && p4)) ∧ Below w.heap.size w w' := by
  have H1 := Lib.hid h1
  have H2 := Lib.hid h2
  have H3 := Lib.hid h3
  have H4 := Lib.hid h4
  have H5 := Lib.hid h5
  clear h1 h2 h3 h4 h5
  go_enter Try.func61, Try.ntmps61
  go_wp2_with (first
    | (go_at_call 86; (with_reducible refine (H1.out _).mono ?_); rintro e w' ⟨rfl, rfl⟩)
    | (go_at_call 86; (with_reducible refine (H2.out _).mono ?_); rintro e w' ⟨rfl, rfl⟩)
    | (go_at_call 86; (with_reducible refine (H3.out _).mono ?_); rintro e w' ⟨rfl, rfl⟩)
    | (go_at_call 86; (with_reducible refine (H4.out _).mono ?_); rintro e w' ⟨rfl, rfl⟩)
    | (go_at_call 35; (with_reducible refine (H5.out _).mono ?_); rintro e w' ⟨rfl, rfl⟩))
  all_goals
    go_ret
    exact ⟨ret_bool (by simp [*]), (Below.refl _ _).alloc (Nat.le_refl _) _⟩

theorem eventRight_Pt {ts src seq kind : Int} {re im : Nat} {x y : Int} (hp : Pt re im x y) (w : World) :
    Calls Try.prog 61 #[.agg #[.int .i64 ts, .int .i64 src, .int .i64 seq, .int .i64 kind, .complex .f64 re im]] w fun e w' => e = .returned (.bool (evR ts src seq kind)) ∧ Below w.heap.size w w' :=
  eventRight_core ts src seq kind re im _ _ _ _ w (within_any _ _) (within_any _ _) (within_any _ _) (within_any _ _) (right_Pt hp)

set_option maxHeartbeats 1000000 in
theorem key_any (ts src seq kind : Int) (re im : Nat) (w : World) :
    Calls Try.prog 114 #[.agg #[.int .i64 ts, .int .i64 src, .int .i64 seq, .int .i64 kind, .complex .f64 re im]] w fun e w' => e = .returned (.agg #[.int .i64 ts, .int .i64 src, .int .i64 seq]) ∧ Below w.heap.size w w' := by
  go_enter Try.func114, Try.ntmps114
  go_wp2
  go_region
  go_wp2
  refine bodyPost_ret (v := .agg #[.int .i64 ts, .int .i64 src, .int .i64 seq]) (by simp [results, Try.results114, go_sem]) rfl ⟨rfl, (((Below.refl _ _).alloc (Nat.le_refl _) _).alloc (by simp) _).drew⟩

set_option maxHeartbeats 1000000 in
theorem rkey_any (ts src seq kind : Int) (re im : Nat) (w : World) :
    Calls Try.prog 77 #[.agg #[.int .i64 ts, .int .i64 src, .int .i64 seq, .int .i64 kind, .complex .f64 re im]] w fun e w' => e = .returned (.agg #[.int .i64 ts, .int .i64 src, .int .i64 seq]) ∧ Below w.heap.size w w' := by
  go_enter Try.func77, Try.ntmps77
  go_wp2
  refine bodyPost_ret (v := .agg #[.int .i64 ts, .int .i64 src, .int .i64 seq]) (by simp [results, Try.results77, go_sem]) rfl ⟨rfl, ((Below.refl _ _).alloc (Nat.le_refl _) _).alloc (by simp) _⟩

set_option maxHeartbeats 1000000 in
theorem rwhole_FI {b : Nat} {n : Int} (h : FI b n) (hn : n.natAbs ≤ 1048576) (w : World) :
    Calls Try.prog 97 #[.float .f64 b] w fun e w' => e = .returned (.bool true) ∧ w = w' := by
  have hc := conv_FI h
  have o1 : (FloatKind.f64.format.order b 13920626448202203136 == some .gt || FloatKind.f64.format.order b 13920626448202203136 == some .eq) = true := by
    have hm : FI 13920626448202203136 (-1048576) := by
      have := FI_ofInt (n := -1048576) (by decide)
      rwa [show FloatKind.f64.nearest (-1048576) = 13920626448202203136 by kernel_rfl] at this
    rw [FI_order h hm]
    rcases Int.lt_or_eq_of_le (show (-1048576 : Int) ≤ n by omega) with h' | h'
    · rw [Int.compare_eq_gt.2 h']; rfl
    · rw [Int.compare_eq_eq.2 h'.symm]; rfl
  have o2 : (FloatKind.f64.format.order b 4697254411347427328 == some .lt || FloatKind.f64.format.order b 4697254411347427328 == some .eq) = true := by
    rw [FI_order h FI_max]
    rcases Int.lt_or_eq_of_le (show n ≤ 1048576 by omega) with h' | h'
    · rw [Int.compare_eq_lt.2 h']; rfl
    · rw [Int.compare_eq_eq.2 h']; rfl
  have o3 : (FloatKind.f64.format.order b (floatOfInt .f64 n) == some .eq) = true := by
    have : floatOfInt .f64 n = FloatKind.f64.nearest n := rfl
    rw [this, FI_order h (FI_ofInt (n := n) (by omega)), Int.compare_eq_eq.2 rfl]; rfl
  clear h hn
  go_enter Try.func97, Try.ntmps97
  go_wp2
  go_ret
  exact ⟨rfl, rfl⟩

set_option maxHeartbeats 1000000 in
theorem rright_Pt {re im : Nat} {x y : Int} (h : Pt re im x y) (w : World) :
    Calls Try.prog 76 #[.complex .f64 re im] w fun e w' => e = .returned (.bool true) ∧ w = w' := by
  have H1 := Lib.hid (fun w => rwhole_FI h.re h.hx w)
  have H2 := Lib.hid (fun w => rwhole_FI h.im h.hy w)
  clear h
  go_enter Try.func76, Try.ntmps76
  go_wp2_with (first | (go_at_call 97; (with_reducible refine (H1.out _).mono ?_); rintro e w' ⟨rfl, rfl⟩) | (go_at_call 97; (with_reducible refine (H2.out _).mono ?_); rintro e w' ⟨rfl, rfl⟩))
  go_ret
  exact ⟨rfl, rfl⟩

set_option maxHeartbeats 400000 in
theorem rpart_core (a b : Nat) (w : World) (p : Bool) (h : (FloatKind.f64.format.order a b == some .eq) = p) (ha : (FloatKind.f64.format.order a a == some .eq) = true) :
    Calls Try.prog 98 #[.float .f64 a, .float .f64 b] w fun e w' => e = .returned (.bool p) ∧ w = w' := by
  have hn : (FloatKind.f64.format.order a a != some .eq) = false := by rw [bne, ha]; rfl
  cases p
  all_goals
    go_enter Try.func98, Try.ntmps98
    go_wp2
    go_ret
    exact ⟨rfl, rfl⟩

set_option maxHeartbeats 400000 in
theorem rsame_core (ar ai br bi : Nat) (w : World) (p q : Bool)
    (h1 : ∀ w, Calls Try.prog 98 #[.float .f64 ar, .float .f64 br] w fun e w' => e = .returned (.bool p) ∧ w = w')
    (h2 : ∀ w, Calls Try.prog 98 #[.float .f64 ai, .float .f64 bi] w fun e w' => e = .returned (.bool q) ∧ w = w') :
    Calls Try.prog 78 #[.complex .f64 ar ai, .complex .f64 br bi] w fun e w' => e = .returned (.bool (p && q)) ∧ w = w' := by
  have H1 := Lib.hid h1
  have H2 := Lib.hid h2
  clear h1 h2
  cases p <;> cases q
  all_goals
    go_enter Try.func78, Try.ntmps78
    go_wp2_with (first | (go_at_call 98; (with_reducible refine (H1.out _).mono ?_); rintro e w' ⟨rfl, rfl⟩) | (go_at_call 98; (with_reducible refine (H2.out _).mono ?_); rintro e w' ⟨rfl, rfl⟩))
    go_ret
    exact ⟨rfl, rfl⟩

theorem rsame_Pt {ar ai br bi : Nat} {x y u v : Int} (ha : Pt ar ai x y) (hb : Pt br bi u v) (w : World) :
    Calls Try.prog 78 #[.complex .f64 ar ai, .complex .f64 br bi] w fun e w' => e = .returned (.bool (decide (x = u) && decide (y = v))) ∧ w = w' :=
  rsame_core ar ai br bi w _ _ (fun w => rpart_core ar br w _ (FI_eq ha.re hb.re) ((FI_eq ha.re ha.re).trans (by simp))) (fun w => rpart_core ai bi w _ (FI_eq ha.im hb.im) ((FI_eq ha.im ha.im).trans (by simp)))

set_option maxHeartbeats 1000000 in
theorem reventRight_core (ts src seq kind : Int) (re im : Nat) (w : World)
    (h5 : ∀ w, Calls Try.prog 76 #[.complex .f64 re im] w fun e w' => e = .returned (.bool true) ∧ w = w') :
    Calls Try.prog 46 #[.agg #[.int .i64 ts, .int .i64 src, .int .i64 seq, .int .i64 kind, .complex .f64 re im]] w fun e w' => e = .returned (.bool (evR ts src seq kind)) ∧ Below w.heap.size w w' := by
  have H5 := Lib.hid h5
  clear h5
  go_enter Try.func46, Try.ntmps46
  go_wp2_with (go_at_call 76; (with_reducible refine (H5.out _).mono ?_); rintro e w' ⟨rfl, rfl⟩)
  all_goals
    go_ret
    refine ⟨ret_bool ?_, (Below.refl _ _).alloc (Nat.le_refl _) _⟩
  all_goals first | exact (evR_yes (by omega)).symm | exact (evR_no (by omega)).symm

theorem reventRight_Pt {ts src seq kind : Int} {re im : Nat} {x y : Int} (hp : Pt re im x y) (w : World) :
    Calls Try.prog 46 #[.agg #[.int .i64 ts, .int .i64 src, .int .i64 seq, .int .i64 kind, .complex .f64 re im]] w fun e w' => e = .returned (.bool (evR ts src seq kind)) ∧ Below w.heap.size w w' :=
  reventRight_core ts src seq kind re im w (rright_Pt hp)


end Go.Proofs.Ytcbneobdelbhlaa
