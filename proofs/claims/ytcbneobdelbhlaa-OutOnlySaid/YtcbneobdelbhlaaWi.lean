/-
  Walks of package wire: Take.
-/
import Derived.Test.YtcbneobdelbhlaaWf
namespace Go.Proofs.Ytcbneobdelbhlaa
open Go.RowKit Go.Shelf

def zrec : Value := .agg #[.int .u8 0, .int .i64 0, .int .i64 0, .int .i64 0, .int .i64 0, .complex .f64 0 0, .int .i64 0, .int .i64 0]

set_option maxHeartbeats 1000000 in
theorem wtake_empty (A : Option Addr) (cap : Nat) (w : World) :
    Calls Try.prog 15 #[.slice A 0 cap] w fun e w' => e = .returned (.tuple #[zrec, .int .i64 50]) ∧ Below w.heap.size w w' := by
  refine calls_of_wp_m Try.func15 rfl ?_
  simp only [Try.ntmps15, List.size_toArray, List.length_cons, List.length_nil, Nat.reduceAdd, Nat.reduceSub, Array.replicate_succ, Array.replicate_zero, List.push_toArray, List.append_toArray, List.nil_append, List.cons_append]
  go_wp2
  refine wp_scope_goto 0 rfl ?_
  go_wp2
  go_step3
  refine ⟨rfl, ?_⟩
  go_wp2
  rw [Exit.noGoto_ret]
  refine postM_ret0 (v := .tuple #[zrec, .int .i64 50]) (by simp [results, Try.results15, go_sem, zrec]) ⟨rfl, (Below.refl _ w).alloc (Nat.le_refl _) _⟩

theorem row8 {w : World} {b : Nat} {c0 c1 c2 c3 c4 c5 c6 c7 : Value} {t : TypeId} (h : w.heap[b]? = some (.cells #[c0, c1, c2, c3, c4, c5, c6, c7] t (0, 0))) :
    w.cell? ⟨b, 0, none⟩ = some c0 ∧ w.cell? ⟨b, 1, none⟩ = some c1 ∧ w.cell? ⟨b, 2, none⟩ = some c2 ∧ w.cell? ⟨b, 3, none⟩ = some c3 ∧ w.cell? ⟨b, 4, none⟩ = some c4 ∧ w.cell? ⟨b, 5, none⟩ = some c5 ∧ w.cell? ⟨b, 6, none⟩ = some c6 ∧ w.cell? ⟨b, 7, none⟩ = some c7 := by
  simp [World.cell?, h]
theorem row_free {w : World} {b : Nat} {cs : Array Value} {t : TypeId} (h : w.heap[b]? = some (.cells cs t (0, 0))) : ∀ i, w.frozen? ⟨b, i, none⟩ = false := by
  intro i; simp [World.frozen?, h]
/-- The box of the result, from its making on. -/
theorem boxOf {w w1 : World} {o : Obj} (hB : Below (w.alloc o).heap.size (w.alloc o) w1) : Hid (w1.heap[w.heap.size]? = some o) := Lib.hid ((hB.block _ (by simp)).trans (World.alloc_heap_new w o))
theorem boxOn {n : Nat} {w1 w2 : World} {o : Obj} (hB : Below w1.heap.size w1 w2) (h : Hid (w1.heap[n]? = some o)) : Hid (w2.heap[n]? = some o) := Lib.hid ((hB.block _ (heap_lt h.out)).trans h.out)

theorem set8 {n : Nat} {w w1 : World} (h : Below n w w1) (v0 v1 v2 v3 v4 v5 v6 v7 : Value) :
    Below n w ((((((((w1.setCell ⟨n, 0, none⟩ v0).setCell ⟨n, 1, none⟩ v1).setCell ⟨n, 2, none⟩ v2).setCell ⟨n, 3, none⟩ v3).setCell ⟨n, 4, none⟩ v4).setCell ⟨n, 5, none⟩ v5).setCell ⟨n, 6, none⟩ v6).setCell ⟨n, 7, none⟩ v7) :=
  (((((((h.setCell (p := ⟨n, 0, none⟩) (Nat.le_refl _) _).setCell (p := ⟨n, 1, none⟩) (Nat.le_refl _) _).setCell (p := ⟨n, 2, none⟩) (Nat.le_refl _) _).setCell (p := ⟨n, 3, none⟩) (Nat.le_refl _) _).setCell (p := ⟨n, 4, none⟩) (Nat.le_refl _) _).setCell (p := ⟨n, 5, none⟩) (Nat.le_refl _) _).setCell (p := ⟨n, 6, none⟩) (Nat.le_refl _) _).setCell (p := ⟨n, 7, none⟩) (Nat.le_refl _) _

theorem bt1 {w w1 : World} {o : Obj} (hB : Below (w.alloc o).heap.size (w.alloc o) w1) : Hid (Below w.heap.size w w1) := Lib.hid (((Below.refl _ w).alloc (Nat.le_refl _) o).trans (hB.mono (by simp)))
theorem bt2 {w w1 w2 : World} (hB : Below w1.heap.size w1 w2) (T : Hid (Below w.heap.size w w1)) : Hid (Below w.heap.size w w2) := Lib.hid (T.out.trans (hB.mono T.out.size))

set_option maxHeartbeats 1000000 in
theorem wtake_long (b off n cap : Nat) (kd sz : Int) (w : World) (h1 : 1 ≤ n) (hk : w.cell? ⟨b, off, none⟩ = some (.int .u8 kd)) (hs : sz = 0 ∨ sz < n)
    (H40 : ∀ w, Calls Try.prog 40 #[.int .u8 kd] w fun e w' => e = .returned (.int .i64 sz) ∧ Below w.heap.size w w') :
    Calls Try.prog 15 #[.slice (some ⟨b, off, none⟩) n cap] w fun e w' => e = .returned (.tuple #[zrec, .int .i64 11]) ∧ Below w.heap.size w w' := by
  have K40 := Lib.hid H40
  clear H40
  have n0 : (0 : Int) < (n : Int) := by omega
  have n1 : 0 < n := by omega
  have nz : ¬ n = 0 := by omega
  have hb : b < w.heap.size := by obtain ⟨o, ho, _⟩ := cells_of_cell hk; exact heap_lt ho
  refine calls_of_wp_m Try.func15 rfl ?_
  simp only [Try.ntmps15, List.size_toArray, List.length_cons, List.length_nil, Nat.reduceAdd, Nat.reduceSub, Array.replicate_succ, Array.replicate_zero, List.push_toArray, List.append_toArray, List.nil_append, List.cons_append]
  go_wp2
  refine wp_scope_goto 0 rfl ?_
  rcases Decidable.em (sz = 0) with h0 | h0
  · subst h0
    clear hs
    go_wp2_with (go_at_call 40; refine (K40.out _).mono ?_; rintro e w1 ⟨rfl, hB⟩; first | (have hc := cell_below hB (cell_later_alloc hk _); have T := bt1 hB; have Bx := boxOf hB; clear hB) | (have hc := cell_below hB (by assumption); have T := bt2 hB (by assumption); have Bx := boxOn hB (by assumption); clear hB))
    go_step3
    refine ⟨rfl, ?_⟩
    obtain ⟨b0, b1, b2, b3, b4, b5, b6, b7⟩ := row8 Bx.out
    have bf := row_free Bx.out
    go_wp2
    rw [Exit.noGoto_ret]
    refine postM_ret0 (v := .tuple #[zrec, .int .i64 11]) ?_ ⟨rfl, ?_⟩
    · simp [results, Try.results15, go_sem, zrec, *]
    · exact set8 T.out _ _ _ _ _ _ _ _
  · have hlt : sz < n := by omega
    clear hs
    go_wp2_with (go_at_call 40; refine (K40.out _).mono ?_; rintro e w1 ⟨rfl, hB⟩; first | (have hc := cell_below hB (cell_later_alloc hk _); have T := bt1 hB; have Bx := boxOf hB; clear hB) | (have hc := cell_below hB (by assumption); have T := bt2 hB (by assumption); have Bx := boxOn hB (by assumption); clear hB))
    go_step3
    refine ⟨rfl, ?_⟩
    obtain ⟨b0, b1, b2, b3, b4, b5, b6, b7⟩ := row8 Bx.out
    have bf := row_free Bx.out
    go_wp2
    rw [Exit.noGoto_ret]
    refine postM_ret0 (v := .tuple #[zrec, .int .i64 11]) ?_ ⟨rfl, ?_⟩
    · simp [results, Try.results15, go_sem, zrec, *]
    · exact set8 T.out _ _ _ _ _ _ _ _

set_option maxHeartbeats 1000000 in
theorem wtake_short (b off n cap : Nat) (kd sz : Int) (w : World) (h1 : 1 ≤ n) (hk : w.cell? ⟨b, off, none⟩ = some (.int .u8 kd)) (hs : n < sz)
    (H40 : ∀ w, Calls Try.prog 40 #[.int .u8 kd] w fun e w' => e = .returned (.int .i64 sz) ∧ Below w.heap.size w w') :
    Calls Try.prog 15 #[.slice (some ⟨b, off, none⟩) n cap] w fun e w' => e = .returned (.tuple #[zrec, .int .i64 50]) ∧ Below w.heap.size w w' := by
  have K40 := Lib.hid H40
  clear H40
  have n0 : (0 : Int) < (n : Int) := by omega
  have n1 : 0 < n := by omega
  have nz : ¬ n = 0 := by omega
  have hb : b < w.heap.size := by obtain ⟨o, ho, _⟩ := cells_of_cell hk; exact heap_lt ho
  refine calls_of_wp_m Try.func15 rfl ?_
  simp only [Try.ntmps15, List.size_toArray, List.length_cons, List.length_nil, Nat.reduceAdd, Nat.reduceSub, Array.replicate_succ, Array.replicate_zero, List.push_toArray, List.append_toArray, List.nil_append, List.cons_append]
  go_wp2
  refine wp_scope_goto 0 rfl ?_
  have h0 : ¬ sz = 0 := by omega
  have h3 : ¬ sz < n := by omega
  have h4 : (n : Int) ≤ sz := by omega
  go_wp2_with (go_at_call 40; refine (K40.out _).mono ?_; rintro e w1 ⟨rfl, hB⟩; first | (have hc := cell_below hB (cell_later_alloc hk _); have T := bt1 hB; have Bx := boxOf hB; clear hB) | (have hc := cell_below hB (by assumption); have T := bt2 hB (by assumption); have Bx := boxOn hB (by assumption); clear hB))
  · exfalso
    rename_i h
    rcases h with h | h
    · exact h0 (by simpa using h)
    · omega
  go_step3
  refine ⟨rfl, ?_⟩
  obtain ⟨b0, b1, b2, b3, b4, b5, b6, b7⟩ := row8 Bx.out
  have bf := row_free Bx.out
  go_wp2
  rw [Exit.noGoto_ret]
  refine postM_ret0 (v := .tuple #[zrec, .int .i64 50]) ?_ ⟨rfl, ?_⟩
  · simp [results, Try.results15, go_sem, zrec, *]
  · exact set8 T.out _ _ _ _ _ _ _ _

end Go.Proofs.Ytcbneobdelbhlaa
