/-
  Walks of the reference 04: Right, Same, Mark, Of; and of wire.Put where the record may not be.
-/
import Derived.Test.YtcbneobdelbhlaaRe
namespace Go.Proofs.Ytcbneobdelbhlaa
open Go.RowKit Go.Shelf

set_option maxHeartbeats 2000000 in
theorem rrRight_1 {ts src seq ek rs rt : Int} {re im : Nat} {x y : Int} (hp : Pt re im x y) (w : World) :
    Calls Try.prog 17 #[.agg #[.int .u8 1, .int .i64 ts, .int .i64 src, .int .i64 seq, .int .i64 ek, .complex .f64 re im, .int .i64 rs, .int .i64 rt]] w fun e w' => e = .returned (.bool (recR 1 ts src seq ek x y rs rt)) ∧ Below w.heap.size w w' := by
  have H46 := Lib.hid (fun w => reventRight_Pt (ts := ts) (src := 0) (seq := seq) (kind := ek) hp w)
  have HR : Hid (recR 1 ts src seq ek x y rs rt = ((decide (0 ≤ src) && decide (src ≤ 255)) && (decide (rs = 0 ∧ rt = 0) && evR ts 0 seq ek))) := Lib.hid (by simp [recR])
  generalize evR ts 0 seq ek = R at *
  generalize recR 1 ts src seq ek x y rs rt = RR at *
  clear hp
  go_enter Try.func17, Try.ntmps17
  go_wp2_with (go_at_call 46; refine (H46.out _).mono ?_; rintro e w1 ⟨rfl, hb⟩; have HB := Lib.hid hb; clear hb)
  all_goals
    go_ret
    refine ⟨ret_bool (Eq.trans ?_ HR.out.symm), ?_⟩
    · simp [*] <;> omega
    · first
        | exact (((Below.refl _ _).alloc (Nat.le_refl _) _).alloc (by simp) _).trans (HB.out.mono (by simp; omega))
        | exact ((Below.refl _ _).alloc (Nat.le_refl _) _).alloc (by simp) _

set_option maxHeartbeats 2000000 in
theorem rrRight_2 {ts src seq ek rs rt : Int} {re im : Nat} {x y : Int} (hp : Pt re im x y) (w : World) :
    Calls Try.prog 17 #[.agg #[.int .u8 2, .int .i64 ts, .int .i64 src, .int .i64 seq, .int .i64 ek, .complex .f64 re im, .int .i64 rs, .int .i64 rt]] w fun e w' => e = .returned (.bool (recR 2 ts src seq ek x y rs rt)) ∧ Below w.heap.size w w' := by
  have H47 : Hid (∀ w, Calls Try.prog 47 #[.agg #[.int .i64 ts, .int .i64 src, .int .i64 seq, .int .i64 ek, .complex .f64 re im], .agg #[.int .i64 0, .int .i64 0, .int .i64 0, .int .i64 0, .complex .f64 0 0]] w fun e w' =>
      e = .returned (.bool (zeroE ts src seq ek x y)) ∧ Below w.heap.size w w') := Lib.hid (fun w => reventSame_Pt hp ⟨FI_0, FI_0, by decide, by decide⟩ w)
  have HR : Hid (recR 2 ts src seq ek x y rs rt = ((decide (0 ≤ rs) && decide (rs ≤ 255)) && (zeroE ts src seq ek x y && (decide (0 ≤ rt) && decide (rt ≤ 1099511627776))))) := Lib.hid (by simp [recR])
  generalize zeroE ts src seq ek x y = R at *
  generalize recR 2 ts src seq ek x y rs rt = RR at *
  clear hp
  go_enter Try.func17, Try.ntmps17
  go_wp2_with (go_at_call 47; refine (H47.out _).mono ?_; rintro e w1 ⟨rfl, hb⟩; obtain ⟨hc, hf⟩ := bcell hb; have HB := Lib.hid hb; clear hb)
  all_goals
    go_ret
    refine ⟨ret_bool (Eq.trans ?_ HR.out.symm), ?_⟩
    · simp [*] <;> omega
    · exact ((Below.refl _ _).alloc (Nat.le_refl _) _).trans (HB.out.mono (by simp))

theorem rrRight_0 {kd ts src seq ek rs rt : Int} {re im : Nat} (x y : Int) (h1 : ¬ kd = 1) (h2 : ¬ kd = 2) (w : World) :
    Calls Try.prog 17 #[.agg #[.int .u8 kd, .int .i64 ts, .int .i64 src, .int .i64 seq, .int .i64 ek, .complex .f64 re im, .int .i64 rs, .int .i64 rt]] w fun e w' => e = .returned (.bool (recR kd ts src seq ek x y rs rt)) ∧ Below w.heap.size w w' := by
  have HR : Hid (recR kd ts src seq ek x y rs rt = false) := Lib.hid (by simp [recR, h1, h2])
  generalize recR kd ts src seq ek x y rs rt = RR at *
  go_enter Try.func17, Try.ntmps17
  go_wp2
  go_ret
  exact ⟨ret_bool HR.out.symm, (Below.refl _ _).alloc (Nat.le_refl _) _⟩

theorem rrRight_Pt {kd ts src seq ek rs rt : Int} {re im : Nat} {x y : Int} (hp : Pt re im x y) (w : World) :
    Calls Try.prog 17 #[.agg #[.int .u8 kd, .int .i64 ts, .int .i64 src, .int .i64 seq, .int .i64 ek, .complex .f64 re im, .int .i64 rs, .int .i64 rt]] w fun e w' => e = .returned (.bool (recR kd ts src seq ek x y rs rt)) ∧ Below w.heap.size w w' := by
  by_cases h1 : kd = 1
  · subst h1; exact rrRight_1 hp w
  · by_cases h2 : kd = 2
    · subst h2; exact rrRight_2 hp w
    · exact rrRight_0 x y h1 h2 w

set_option maxHeartbeats 2000000 in
theorem rrSame_core (ak a1 a2 a3 a4 sa ta bk b1 b2 b3 b4 bs bt : Int) (ar ai br bi : Nat) (p : Bool) (w : World)
    (h : ∀ w, Calls Try.prog 47 #[.agg #[.int .i64 a1, .int .i64 a2, .int .i64 a3, .int .i64 a4, .complex .f64 ar ai], .agg #[.int .i64 b1, .int .i64 b2, .int .i64 b3, .int .i64 b4, .complex .f64 br bi]] w fun e w' =>
      e = .returned (.bool p) ∧ Below w.heap.size w w') :
    Calls Try.prog 18 #[.agg #[.int .u8 ak, .int .i64 a1, .int .i64 a2, .int .i64 a3, .int .i64 a4, .complex .f64 ar ai, .int .i64 sa, .int .i64 ta], .agg #[.int .u8 bk, .int .i64 b1, .int .i64 b2, .int .i64 b3, .int .i64 b4, .complex .f64 br bi, .int .i64 bs, .int .i64 bt]] w fun e w' =>
      e = .returned (.bool ((ak == bk) && p && (sa == bs) && (ta == bt))) ∧ Below w.heap.size w w' := by
  have H := Lib.hid h
  clear h
  obtain ⟨RR, hRR⟩ : ∃ RR, RR = ((ak == bk) && p && (sa == bs) && (ta == bt)) := ⟨_, rfl⟩
  rw [← hRR]
  have HR := Lib.hid hRR
  clear hRR
  cases h1 : (ak == bk) <;> cases h2 : (sa == bs) <;> cases h3 : (ta == bt)
  all_goals
    go_enter Try.func18, Try.ntmps18
    go_wp2_with (go_at_call 47; refine (H.out _).mono ?_; rintro e w1 ⟨rfl, hb⟩; obtain ⟨hc, hf⟩ := bcell hb; have HB := Lib.hid hb; clear hb)
  all_goals
    go_ret
    refine ⟨ret_bool (Eq.trans ?_ HR.out.symm), ?_⟩
    · simp [*]
    · first
        | exact (((Below.refl _ _).alloc (Nat.le_refl _) _).alloc (by simp) _).trans (HB.out.mono (by simp; omega))
        | exact ((Below.refl _ _).alloc (Nat.le_refl _) _).alloc (by simp) _

theorem rmark_any (s t : Int) (w : World) :
    Calls Try.prog 38 #[.int .i64 s, .int .i64 t] w fun e w' => e = .returned (.agg #[.int .u8 2, .int .i64 0, .int .i64 0, .int .i64 0, .int .i64 0, .complex .f64 0 0, .int .i64 s, .int .i64 t]) ∧ Below w.heap.size w w' := by
  go_enter Try.func38, Try.ntmps38
  go_wp2
  exact bodyPost_ret (v := .agg #[.int .u8 2, .int .i64 0, .int .i64 0, .int .i64 0, .int .i64 0, .complex .f64 0 0, .int .i64 s, .int .i64 t]) (by simp [results, Try.results38, go_sem]) rfl ⟨rfl, (Below.refl _ _).alloc (Nat.le_refl _) _⟩

theorem rof_any (a1 a2 a3 a4 : Int) (ar ai : Nat) (w : World) :
    Calls Try.prog 39 #[.agg #[.int .i64 a1, .int .i64 a2, .int .i64 a3, .int .i64 a4, .complex .f64 ar ai]] w fun e w' => e = .returned (.agg #[.int .u8 1, .int .i64 a1, .int .i64 a2, .int .i64 a3, .int .i64 a4, .complex .f64 ar ai, .int .i64 0, .int .i64 0]) ∧ Below w.heap.size w w' := by
  go_enter Try.func39, Try.ntmps39
  go_wp2
  exact bodyPost_ret (v := .agg #[.int .u8 1, .int .i64 a1, .int .i64 a2, .int .i64 a3, .int .i64 a4, .complex .f64 ar ai, .int .i64 0, .int .i64 0]) (by simp [results, Try.results39, go_sem]) rfl ⟨rfl, ((Below.refl _ _).alloc (Nat.le_refl _) _).alloc (by simp) _⟩

set_option maxHeartbeats 1000000 in
theorem wput_no (kd ts src seq ek rs rt : Int) (re im : Nat)
    (H43 : ∀ w, Calls Try.prog 43 #[.agg #[.int .u8 kd, .int .i64 ts, .int .i64 src, .int .i64 seq, .int .i64 ek, .complex .f64 re im, .int .i64 rs, .int .i64 rt]] w fun e w' => e = .returned (.bool false) ∧ Below w.heap.size w w') (w : World) :
    Calls Try.prog 16 #[.agg #[.int .u8 kd, .int .i64 ts, .int .i64 src, .int .i64 seq, .int .i64 ek, .complex .f64 re im, .int .i64 rs, .int .i64 rt]] w fun e w' => e = .returned (.tuple #[.slice none 0 0, .int .i64 2]) ∧ Below w.heap.size w w' := by
  have K43 := Lib.hid H43
  clear H43
  refine calls_of_wp_m Try.func16 rfl ?_
  simp only [Try.ntmps16, List.size_toArray, List.length_cons, List.length_nil, Nat.reduceAdd, Nat.reduceSub, Array.replicate_succ, Array.replicate_zero, List.push_toArray, List.append_toArray, List.nil_append, List.cons_append]
  go_wp2_with (go_at_call 43; refine (K43.out _).mono ?_; rintro e w1 ⟨rfl, hb⟩; obtain ⟨hc, hf⟩ := bcell hb; have HB := Lib.hid hb; clear hb)
  have c1 : w1.cell? ⟨w.heap.size + 1, 0, none⟩ = some (.slice none 0 0) := (hc (w.heap.size + 1) 0 (by simp)).trans (by simp [go_sem])
  refine postM_ret0 (v := .tuple #[.slice none 0 0, .int .i64 2]) ?_ ⟨rfl, ?_⟩
  · simp [results, Try.results16, go_sem, c1]
  · exact ((((Below.refl _ _).alloc (Nat.le_refl _) _).alloc (by simp) _).trans (HB.out.mono (by simp; omega))).setCell (p := ⟨w.heap.size + 1, 0, none⟩) (by simp) _

end Go.Proofs.Ytcbneobdelbhlaa
