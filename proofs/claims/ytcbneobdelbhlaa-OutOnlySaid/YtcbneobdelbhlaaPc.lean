/-
  Walks of package plane: turned, Turn (by one quarter), Same; the law's own wakes; PlaneSquares.
-/
import Derived.Test.YtcbneobdelbhlaaPb
import Derived.Test.YtcbneobdelbhlaaRg
namespace Go.Proofs.Ytcbneobdelbhlaa
open Go.RowKit Go.Shelf
attribute [local go_sem] Oper.semAt_some

set_option maxHeartbeats 400000 in
theorem turned_any (re im : Nat) (q : Int) (w : World) :
    Calls Try.prog 69 #[.complex .f64 re im, .int .i64 q] w fun e w' => e = .returned (.func (.func 91) #[] #[.pointer (some ⟨w.heap.size + 1, 0, none⟩), .pointer (some ⟨w.heap.size, 0, none⟩)]) ∧
      w'.cell? ⟨w.heap.size + 1, 0, none⟩ = some (.int .i64 q) ∧ w'.cell? ⟨w.heap.size, 0, none⟩ = some (.complex .f64 re im) ∧ w'.frozen? ⟨w.heap.size, 0, none⟩ = false ∧ Below w.heap.size w w' ∧ w'.heap.size = w.heap.size + 2 := by
  go_enter Try.func69, Try.ntmps69
  go_wp2
  go_ret
  exact ⟨rfl, by simp [go_sem], by simp [go_sem], by simp [go_sem], ((Below.refl _ _).alloc (Nat.le_refl _) _).alloc (by simp) _, by simp⟩

/-- One quarter: one round. -/
theorem turned_seq (re im : Nat) (bq bc : Nat) (w : World) (hq : w.cell? ⟨bq, 0, none⟩ = some (.int .i64 1)) (hc : w.cell? ⟨bc, 0, none⟩ = some (.complex .f64 re im)) (hf : w.frozen? ⟨bc, 0, none⟩ = false) :
    SeqZ (α := Unit) Try.prog 91 #[.pointer (some ⟨bq, 0, none⟩), .pointer (some ⟨bc, 0, none⟩)] (fun _ => #[.complex .f64 (Op.negFloat .f64 im) re]) (fun k => k = bq ∨ k = bc) (fun k => k = bc) (fun _ _ _ => True)
      (fun xs => xs = [()]) (fun xs => xs = [()]) w := by
  intro l J Jx W hW hJ hJx hY h0
  have q1 : W.cell? ⟨bq, 0, none⟩ = some (.int .i64 1) := hW.cell hq (fun _ _ => .inl rfl)
  have c1 : W.cell? ⟨bc, 0, none⟩ = some (.complex .f64 re im) := hW.cell hc (fun _ _ => .inr rfl)
  have f1 : W.frozen? ⟨bc, 0, none⟩ = false := (hW.frozen hc (fun _ _ => .inr rfl)).trans hf
  have n1 := unary_neg_float im
  refine callsIn_of_wp Try.func91 rfl trivial ?_
  simp only [Try.ntmps91, List.size_toArray, List.length_cons, List.length_nil, Nat.reduceAdd, Nat.reduceSub, Array.replicate_succ, Array.replicate_zero, List.push_toArray, List.append_toArray, List.nil_append, List.cons_append]
  have c2 : (W.setCell ⟨bc, 0, none⟩ (.complex .f64 (Op.negFloat .f64 im) re)).cell? ⟨bc, 0, none⟩ = some (.complex .f64 (Op.negFloat .f64 im) re) := World.cell?_setCell_same' _ _ _ (by rw [c1]; rfl)
  obtain ⟨fn, tmps, assign, body, hy, hR⟩ := hY [] () (W.setCell ⟨bc, 0, none⟩ (.complex .f64 (Op.negFloat .f64 im) re)) (hJ _ _ _ h0 ((Kept.refl _ _).setCell (fun o _ h => h rfl) _)) ((hW.mono fun k o h => h.1).setCell (fun o _ h => h.2 rfl) _) trivial
  dsimp only at hy
  have b1 : bits .and .i64 1 3 = 1 := by kernel_rfl
  gi_wp2
  refine wpIn_loop_rounds 2 ?_
  rw [roundsIn_succ]
  gi_wp2
  refine ⟨rfl, hR.mono ?_⟩
  rintro e W3 (⟨rfl, hJ3, hk3⟩ | ⟨rfl, hJx3⟩)
  · gi_wp2
    rw [roundsIn_succ]
    gi_wp2
    go_end0
    exact ⟨⟨_, rfl⟩, .inl ⟨_, rfl, hJ3⟩⟩
  · gi_wp2
    refine bodyPost_ret (results_none rfl _ _ _) rfl ?_
    exact ⟨⟨_, rfl⟩, .inr ⟨_, rfl, hJx3⟩⟩

/-- The point i, turned by a quarter, out of 1+2i. -/
theorem turn_12 (w : World) :
    Calls Try.prog 32 #[.complex .f64 4607182418800017408 4611686018427387904, .int .i64 1] w fun e w' =>
      e = .returned (.complex .f64 13835058055282163712 4607182418800017408) ∧ Below w.heap.size w w' := by
  have hp : Pt 4607182418800017408 4611686018427387904 1 2 := by
    have := Pt_fb (x := 1) (y := 2) (by decide) (by decide)
    rwa [show fb 1 = 4607182418800017408 by kernel_rfl, show fb 2 = 4611686018427387904 by kernel_rfl] at this
  have H1 := Lib.hid (known_Pt hp)
  clear hp
  refine calls_of_wp_m Try.func32 rfl ?_
  simp only [Try.ntmps32, List.size_toArray, List.length_cons, List.length_nil, Nat.reduceAdd, Nat.reduceSub, Array.replicate_succ, Array.replicate_zero, List.push_toArray, List.append_toArray, List.nil_append, List.cons_append]
  go_wp2_with (first | (go_at_call 68; (with_reducible refine (H1.out _).mono ?_); rintro e w' ⟨rfl, rfl⟩) | (go_at_call 69; refine (turned_any _ _ _ _).mono ?_; rintro e w1 ⟨rfl, c1, c2, f2, hb, hsz⟩))
  simp only [World.size_alloc] at c1 c2 f2 hb hsz
  have hB : Below w.heap.size w w1 := ((Below.refl _ _).alloc (Nat.le_refl _) _).trans (hb.mono (by omega))
  have cc : ∃ v, w1.cell? ⟨w.heap.size, 0, none⟩ = some v := ⟨_, (hb.cell (p := ⟨w.heap.size, 0, none⟩) (by simp)).trans (cell_new _ _ _)⟩
  have cf : w1.frozen? ⟨w.heap.size, 0, none⟩ = false := (hb.frozen (p := ⟨w.heap.size, 0, none⟩) (by simp)).trans (frozen_new _ _ _)
  clear hb
  refine wp_range (gf := 91) rfl (enters_of Try.func91 (by kernel_rfl) rfl) (turned_seq 4607182418800017408 4611686018427387904 _ _ w1 c1 c2 f2) (by rintro k (rfl | rfl) <;> omega) (by rintro k rfl; omega) (fun _ => rfl)
    (fun pre W => (pre = [()] → W.cell? ⟨w.heap.size, 0, none⟩ = some (.complex .f64 (Op.negFloat .f64 4611686018427387904) 4607182418800017408)) ∧ (∃ v, W.cell? ⟨w.heap.size, 0, none⟩ = some v ∧ W.frozen? ⟨w.heap.size, 0, none⟩ = false) ∧ Below w.heap.size w W ∧ w.heap.size ≤ W.heap.size)
    (fun _ _ _ => False) ?hI (fun _ _ _ _ h _ => h.elim) ⟨fun h => by simp at h, cc.imp fun v h => ⟨h, cf⟩, hB, by omega⟩
    (fun _ _ a' W => Fr a' #[.complex .f64 4607182418800017408 4611686018427387904, .int .i64 1, .pointer (some ⟨w.heap.size, 0, none⟩), undef, .complex .f64 0 0, .complex .f64 (Op.negFloat .f64 4611686018427387904) 4607182418800017408,
        .complex .f64 4607182418800017408 4611686018427387904, .complex .f64 4607182418800017408 4611686018427387904, .complex .f64 4607182418800017408 4611686018427387904, .int .i64 1,
        .func (.func 91) #[] #[.pointer (some ⟨w.heap.size + 1 + 1, 0, none⟩), .pointer (some ⟨w.heap.size + 1, 0, none⟩)], .complex .f64 (Op.negFloat .f64 4611686018427387904) 4607182418800017408, undef, undef, undef, undef, undef, undef, undef, undef] ∧ Fact (
      (∃ v, W.cell? ⟨w.heap.size, 0, none⟩ = some v ∧ W.frozen? ⟨w.heap.size, 0, none⟩ = false) ∧ Below w.heap.size w W ∧ w.heap.size ≤ W.heap.size))
    ?hA ?assign ?body ?done ?stop
  case hI =>
    rintro pre A B ⟨h1, ⟨v, h2, h3⟩, h4, h5⟩ hk
    exact ⟨fun e => ZI_cell hk (h1 e) (by simp), ⟨v, ZI_cell hk h2 (by simp), (ZI_frozen hk h2 (by simp)).trans h3⟩, ZI_below hk h4 (by omega) h5 (by rintro k hk rfl; omega), Nat.le_trans h5 hk.size⟩
  case stop => exact fun _ _ _ _ _ _ h => h.elim
  case hA =>
    rintro pre _ a' A B ⟨rfl, ⟨v, h2, h3⟩, h4, h5⟩ hk
    exact ⟨rfl, ⟨v, ZI_cell hk h2 (by simp), (ZI_frozen hk h2 (by simp)).trans h3⟩, ZI_below hk h4 (by omega) h5 (by rintro k hk rfl; omega), Nat.le_trans h5 hk.size⟩
  case assign =>
    rintro l pre _ W ⟨_, hc⟩ _ _
    have hc := Lib.hid hc
    gi_wp2
    exact ⟨Kept.refl _ _, rfl, hc.out⟩
  case body =>
    rintro l pre _ a' W ⟨rfl, ⟨v, h2, h3⟩, h4, h5⟩
    gi_wp2
    exact ⟨ZB_set (Kept.refl _ _) h2 (by simp; omega) _, fun _ => World.cell?_setCell_same' _ _ _ (by rw [h2]; rfl), ⟨_, World.cell?_setCell_same' _ _ _ (by rw [h2]; rfl), by rw [World.frozen?_setCell]; exact h3⟩, h4.setCell (p := ⟨w.heap.size, 0, none⟩) (Nat.le_refl _) _, by simpa [World.setCell] using h5⟩
  case done =>
    rintro D xs W hD rfl ⟨h1, ⟨v, h2, h3⟩, h4, h5⟩ hK
    have hc := h1 rfl
    clear h1 h2
    have n1 : ∀ w : World, (binOp .add 69 (.float .f64 (Op.negFloat .f64 4611686018427387904)) (.float .f64 0)).run Try.prog w = .ok (.float .f64 13835058055282163712) w := fun w => run_float_arith w .add 69 .f64 _ _ _ (by kernel_rfl)
    have n2 : ∀ w : World, (binOp .add 69 (.float .f64 4607182418800017408) (.float .f64 0)).run Try.prog w = .ok (.float .f64 4607182418800017408) w := fun w => run_float_arith w .add 69 .f64 _ _ _ (by kernel_rfl)
    have hD : Fact (w.heap.size ≤ D) := by unfold Fact; omega
    go_wp2
    refine postM_ret1 hK (results_tmp rfl _ _ _) ⟨rfl, ?_⟩
    exact below_putObj h4 hD _

set_option maxHeartbeats 400000 in
theorem one_core (a b : Nat) (w : World) (p : Bool) (h : (FloatKind.f64.format.order a b == some .eq) = p) (ha : (FloatKind.f64.format.order a a == some .eq) = true) :
    Calls Try.prog 71 #[.float .f64 a, .float .f64 b] w fun e w' => e = .returned (.bool p) ∧ w = w' := by
  have hn : (FloatKind.f64.format.order a a != some .eq) = false := by rw [bne, ha]; rfl
  cases p
  all_goals
    go_enter Try.func71, Try.ntmps71
    go_wp2
    go_ret
    exact ⟨rfl, rfl⟩

set_option maxHeartbeats 400000 in
theorem same_core (ar ai br bi : Nat) (w : World) (p q : Bool)
    (h1 : ∀ w, Calls Try.prog 71 #[.float .f64 ar, .float .f64 br] w fun e w' => e = .returned (.bool p) ∧ w = w')
    (h2 : ∀ w, Calls Try.prog 71 #[.float .f64 ai, .float .f64 bi] w fun e w' => e = .returned (.bool q) ∧ w = w') :
    Calls Try.prog 36 #[.complex .f64 ar ai, .complex .f64 br bi] w fun e w' => e = .returned (.bool (p && q)) ∧ w = w' := by
  have H1 := Lib.hid h1
  have H2 := Lib.hid h2
  clear h1 h2
  cases p <;> cases q
  all_goals
    go_enter Try.func36, Try.ntmps36
    go_wp2_with (first | (go_at_call 71; (with_reducible refine (H1.out _).mono ?_); rintro e w' ⟨rfl, rfl⟩) | (go_at_call 71; (with_reducible refine (H2.out _).mono ?_); rintro e w' ⟨rfl, rfl⟩))
    go_ret
    exact ⟨rfl, rfl⟩

theorem FI_eq {x y : Nat} {a b : Int} (hx : FI x a) (hy : FI y b) : (FloatKind.f64.format.order x y == some .eq) = decide (a = b) := by
  rw [FI_order hx hy]
  by_cases h : a = b
  · subst h; simp
  · rcases Int.lt_or_gt_of_ne h with h' | h'
    · rw [Int.compare_eq_lt.2 h']; simp [h]
    · rw [Int.compare_eq_gt.2 h']; simp [h]

/-- Points of whole parts are the same just if their parts are. -/
theorem same_Pt {ar ai br bi : Nat} {x y u v : Int} (ha : Pt ar ai x y) (hb : Pt br bi u v) (w : World) :
    Calls Try.prog 36 #[.complex .f64 ar ai, .complex .f64 br bi] w fun e w' => e = .returned (.bool (decide (x = u) && decide (y = v))) ∧ w = w' :=
  same_core ar ai br bi w _ _ (fun w => one_core ar br w _ (FI_eq ha.re hb.re) ((FI_eq ha.re ha.re).trans (by simp))) (fun w => one_core ai bi w _ (FI_eq ha.im hb.im) ((FI_eq ha.im ha.im).trans (by simp)))

end Go.Proofs.Ytcbneobdelbhlaa
