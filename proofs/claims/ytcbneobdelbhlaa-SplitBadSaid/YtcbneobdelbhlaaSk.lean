/-
  The reference 05: Take.
-/
import Derived.Test.YtcbneobdelbhlaaSj
import Derived.Test.YtcbneobdelbhlaaSd
namespace Go.Proofs.Ytcbneobdelbhlaa
open Go.RowKit Go.Shelf

set_option maxHeartbeats 1000000 in
theorem rtake_empty (A : Option Addr) (cap : Nat) (w : World) :
    Calls Try.prog 27 #[.slice A 0 cap] w fun e w' => e = .returned (.tuple #[zrec, .int .i64 50]) ∧ Ext w w' := by
  go_enter Try.func27, Try.ntmps27
  go_wp2
  exact bodyPost_ret (v := .tuple #[zrec, .int .i64 50]) (by simp [results, Try.results27, go_sem, zrec]) rfl ⟨rfl, (Ext.refl w).alloc _⟩

set_option maxHeartbeats 1000000 in
theorem rtake_form (b off n cap : Nat) (kd : Int) (w : World) (h1 : 1 ≤ n) (hk : w.cell? ⟨b, off, none⟩ = some (.int .u8 kd)) (k1 : ¬ kd = 1) (k2 : ¬ kd = 2) :
    Calls Try.prog 27 #[.slice (some ⟨b, off, none⟩) n cap] w fun e w' => e = .returned (.tuple #[zrec, .int .i64 11]) ∧ Ext w w' := by
  have H := Lib.hid (rsize_0 kd k1 k2)
  have n0 : (0 : Int) < (n : Int) := by omega
  have n1 : 0 < n := by omega
  have nz : ¬ n = 0 := by omega
  have hb : b < w.heap.size := by obtain ⟨o, ho, _⟩ := cells_of_cell hk; exact heap_lt ho
  clear h1
  go_enter Try.func27, Try.ntmps27
  go_wp2_with (go_at_call 50; refine (H.out _).mono ?_; rintro e w' ⟨rfl, rfl⟩)
  exact bodyPost_ret (v := .tuple #[zrec, .int .i64 11]) (by simp [results, Try.results27, go_sem, zrec]) rfl ⟨rfl, (Ext.refl w).alloc _⟩

set_option maxHeartbeats 1000000 in
theorem rtake_short (b off n cap : Nat) (kd sz : Int) (w : World) (h1 : 1 ≤ n) (hk : w.cell? ⟨b, off, none⟩ = some (.int .u8 kd)) (hs : n < sz) (h : ∀ w, Calls Try.prog 50 #[.int .u8 kd] w fun e w' => e = .returned (.int .i64 sz) ∧ w = w') :
    Calls Try.prog 27 #[.slice (some ⟨b, off, none⟩) n cap] w fun e w' => e = .returned (.tuple #[zrec, .int .i64 50]) ∧ Ext w w' := by
  have H := Lib.hid h
  clear h
  have n0 : (0 : Int) < (n : Int) := by omega
  have n1 : 0 < n := by omega
  have nz : ¬ n = 0 := by omega
  have sz0 : ¬ sz = 0 := by omega
  have sz1 : (sz == 0) = false := by simpa using sz0
  have hb : b < w.heap.size := by obtain ⟨o, ho, _⟩ := cells_of_cell hk; exact heap_lt ho
  clear h1
  go_enter Try.func27, Try.ntmps27
  go_wp2_with (go_at_call 50; refine (H.out _).mono ?_; rintro e w' ⟨rfl, rfl⟩)
  exact bodyPost_ret (v := .tuple #[zrec, .int .i64 50]) (by simp [results, Try.results27, go_sem, zrec]) rfl ⟨rfl, (Ext.refl w).alloc _⟩

set_option maxHeartbeats 1000000 in
theorem rtake_long (b off n cap : Nat) (kd sz : Int) (w : World) (h1 : 1 ≤ n) (hk : w.cell? ⟨b, off, none⟩ = some (.int .u8 kd)) (hs0 : 0 < sz) (hs : sz < n) (h : ∀ w, Calls Try.prog 50 #[.int .u8 kd] w fun e w' => e = .returned (.int .i64 sz) ∧ w = w') :
    Calls Try.prog 27 #[.slice (some ⟨b, off, none⟩) n cap] w fun e w' => e = .returned (.tuple #[zrec, .int .i64 11]) ∧ Ext w w' := by
  have H := Lib.hid h
  clear h
  have n0 : (0 : Int) < (n : Int) := by omega
  have n1 : 0 < n := by omega
  have nz : ¬ n = 0 := by omega
  have sz0 : ¬ sz = 0 := by omega
  have sz1 : (sz == 0) = false := by simpa using sz0
  have sz2 : sz ≤ (n : Int) := by omega
  have hb : b < w.heap.size := by obtain ⟨o, ho, _⟩ := cells_of_cell hk; exact heap_lt ho
  clear h1
  go_enter Try.func27, Try.ntmps27
  go_wp2_with (go_at_call 50; refine (H.out _).mono ?_; rintro e w' ⟨rfl, rfl⟩)
  exact bodyPost_ret (v := .tuple #[zrec, .int .i64 11]) (by simp [results, Try.results27, go_sem, zrec]) rfl ⟨rfl, (Ext.refl w).alloc _⟩

theorem numOf_one (l : List Int) (s : Nat) (h : s < l.length) : numOf ((l.drop s).take 1) = l.getD s 0 := by
  have e : (l.drop s).take 1 = [l.getD s 0] := by
    rw [List.drop_eq_getElem_cons h, List.take_succ_cons, List.take_zero, List.getD_eq_getElem?_getD, List.getElem?_eq_getElem h]
    rfl
  rw [e]
  simp [numOf]

theorem row_at {w : World} {b off : Nat} {l : List Int} {k : Int} (h : Row w b off (k :: l)) (s : Nat) (hs : s < l.length) : w.cell? ⟨b, off + (s + 1), none⟩ = some (.int .u8 (l.getD s 0)) ∧ 0 ≤ l.getD s 0 ∧ l.getD s 0 ≤ 255 := by
  refine ⟨by have := h.cell (s + 1) (by simp; omega); rw [this]; simp, ?_⟩
  rw [List.getD_eq_getElem?_getD, List.getElem?_eq_getElem hs]
  exact h.byte _ (List.mem_cons_of_mem _ (List.getElem_mem hs))
theorem row_part {w : World} {b off : Nat} {l : List Int} {k : Int} (h : Row w b off (k :: l)) (s m : Nat) (hs : s + m ≤ l.length) : Row w b (off + (s + 1)) ((l.drop s).take m) := by
  have := chunk_row (s := s + 1) (k := m) h (by simp; omega)
  simpa using this
theorem part_len (l : List Int) (s m : Nat) (hs : s + m ≤ l.length) : ((l.drop s).take m).length = m := by rw [List.length_take, List.length_drop]; omega

theorem res27 {W : World} {b : Nat} {tmps : Array Value} {c0 c1 c2 c3 c4 c5 c6 c7 v3 : Value} (h2 : tmps[2]?.getD undef = .pointer (some ⟨b, 0, none⟩)) (h3 : tmps[3]?.getD undef = v3) (h : W.heap[b]? = some (.cells #[c0, c1, c2, c3, c4, c5, c6, c7] 34 (0, 0))) :
    (results Try.f27 tmps).run Try.prog W = .ok (.tuple #[.agg #[c0, c1, c2, c3, c4, c5, c6, c7], v3]) W := by
  obtain ⟨x0, x1, x2, x3, x4, x5, x6, x7⟩ := row8 h
  simp [results, Try.results27, go_sem, h2, h3, x0, x1, x2, x3, x4, x5, x6, x7]

set_option maxHeartbeats 2000000 in
theorem rtake_two (b off cap : Nat) (l : List Int) (w : World) (hl : l.length = 7) (hrow : Row w b off (2 :: l)) (hc : 8 ≤ cap) (ok : Bool)
    (H17 : ∀ w, Calls Try.prog 17 #[.agg #[.int .u8 2, .int .i64 0, .int .i64 0, .int .i64 0, .int .i64 0, .complex .f64 0 0, .int .i64 (numOf (l.take 1)), .int .i64 (numOf ((l.drop 1).take 6))]] w fun e w' => e = .returned (.bool ok) ∧ Ext w w') :
    Calls Try.prog 27 #[.slice (some ⟨b, off, none⟩) 8 cap] w fun e w' => e = .returned (if ok then .tuple #[.agg #[.int .u8 2, .int .i64 0, .int .i64 0, .int .i64 0, .int .i64 0, .complex .f64 0 0, .int .i64 (numOf (l.take 1)), .int .i64 (numOf ((l.drop 1).take 6))], .int .i64 0] else .tuple #[zrec, .int .i64 11]) ∧ Ext w w' := by
  have K17 := Lib.hid H17
  have hk : w.cell? ⟨b, off, none⟩ = some (.int .u8 2) := by have := hrow.cell 0 (by simp); simpa using this
  obtain ⟨c1, s0, s1⟩ := row_at hrow 0 (by omega)
  have e0 := numOf_one l 0 (by omega)
  rw [List.drop_zero] at e0
  rw [← e0] at c1 s0 s1
  have P := fun W (h : Ext w W) => rtake_num b (off + 2) (cap - 2) ((l.drop 1).take 6) W (h.row (row_part hrow 1 6 (by omega))) (by rw [part_len l 1 6 (by omega)]; decide) (by rw [part_len l 1 6 (by omega)]; decide) (by rw [part_len l 1 6 (by omega)]; omega)
  rw [part_len l 1 6 (by omega)] at P
  have HP := Lib.hid P
  have hb : b < w.heap.size := by obtain ⟨o, ho, _⟩ := cells_of_cell hk; exact heap_lt ho
  clear H17 P hrow hl e0
  generalize numOf (l.take 1) = t0 at *
  generalize numOf ((l.drop 1).take 6) = t1 at *
  have cz : ¬ cap = 2 := by omega
  have cz' : (8 : Int) ≤ (cap : Int) := by omega
  have z5 : IntKind.i64.wrap t0 = t0 := IntWalk.i64_in _ (by omega)
  cases ok
  all_goals
    go_enter Try.func27, Try.ntmps27
    go_wp2_with (first | (go_at_call 50; refine (rsize_2 _).mono ?_; rintro e w' ⟨rfl, rfl⟩) | (go_at_call 51; refine (HP.out _ (((Ext.refl w).alloc _).alloc _)).mono ?_; rintro e w' ⟨rfl, rfl⟩) | (go_at_call 17; refine (K17.out _).mono ?_; rintro e w2 ⟨rfl, hE⟩; have T := Lib.hid (Ext.of2 hE); have hbox := hE.heap ((Below.heap_alloc _ _ _ (by simp)).trans (World.alloc_heap_new w _)); have hbox2 := hE.heap (heap_top (W := w.alloc _) (n := w.heap.size + 1) (by simp)); obtain ⟨a0, a1, a2, a3, a4, a5, a6, a7⟩ := row8 hbox; obtain ⟨d0, d1, d2, d3, d4, d5, d6, d7⟩ := row8 hbox2; have bf := row_free hbox; have HBx := Lib.hid hbox; clear hbox hbox2 hE))
  · exact bodyPost_ret (v := .tuple #[zrec, .int .i64 11]) (res27 rfl rfl (set8_heap HBx.out 0 0 0 0 0 0 0 0 0)) rfl ⟨rfl, set8 T.out _ _ _ _ _ _ _ _⟩
  · exact bodyPost_ret (v := .tuple #[.agg #[.int .u8 2, .int .i64 0, .int .i64 0, .int .i64 0, .int .i64 0, .complex .f64 0 0, .int .i64 t0, .int .i64 t1], .int .i64 0]) (res27 rfl rfl (set8_heap HBx.out 2 0 0 0 0 0 0 t0 t1)) rfl ⟨rfl, set8 T.out _ _ _ _ _ _ _ _⟩

set_option maxHeartbeats 2000000 in
theorem rtake_one_out (b off cap : Nat) (l : List Int) (w : World) (hl : l.length = 19) (hrow : Row w b off (1 :: l)) (hc : 20 ≤ cap)
    (H52 : ∀ w, Calls Try.prog 52 #[.int .i64 (p32 (numOf ((l.drop 11).take 4))), .int .i64 (p32 (numOf ((l.drop 15).take 4)))] w fun e w' => e = .returned (.tuple #[.complex .f64 0 0, .int .i64 20]) ∧ w = w') :
    Calls Try.prog 27 #[.slice (some ⟨b, off, none⟩) 20 cap] w fun e w' => e = .returned (.tuple #[zrec, .int .i64 11]) ∧ Ext w w' := by
  have K52 := Lib.hid H52
  have hk : w.cell? ⟨b, off, none⟩ = some (.int .u8 1) := by have := hrow.cell 0 (by simp); simpa using this
  have PX := fun W (h : Ext w W) => rpart_num b (off + 12) (cap - 12) ((l.drop 11).take 4) W (h.row (row_part hrow 11 4 (by omega))) (part_len l 11 4 (by omega)) (by omega)
  have PY := fun W (h : Ext w W) => rpart_num b (off + 16) (cap - 16) ((l.drop 15).take 4) W (h.row (row_part hrow 15 4 (by omega))) (part_len l 15 4 (by omega)) (by omega)
  have HPX := Lib.hid PX
  have HPY := Lib.hid PY
  have hb : b < w.heap.size := by obtain ⟨o, ho, _⟩ := cells_of_cell hk; exact heap_lt ho
  clear H52 PX PY hrow hl
  generalize p32 (numOf ((l.drop 11).take 4)) = x0 at *
  generalize p32 (numOf ((l.drop 15).take 4)) = y0 at *
  have cz : ¬ cap = 12 := by omega
  have cy : ¬ cap = 16 := by omega
  have cw : (16 : Int) ≤ (cap : Int) := by omega
  have cz' : (20 : Int) ≤ (cap : Int) := by omega
  go_enter Try.func27, Try.ntmps27
  go_wp2_with (go_at_call 50; refine (rsize_1 _).mono ?_; rintro e w' ⟨rfl, rfl⟩)
  have E : Hid (Ext w ((w.alloc (.cells #[.int .u8 0, .int .i64 0, .int .i64 0, .int .i64 0, .int .i64 0, .complex .f64 0 0, .int .i64 0, .int .i64 0] 34)).alloc (.cells #[.int .u8 1, .int .i64 0, .int .i64 0, .int .i64 0, .int .i64 0, .complex .f64 0 0, .int .i64 0, .int .i64 0] 34))) := Lib.hid (((Ext.refl w).alloc _).alloc _)
  have QX := Lib.hid (fun x => HPX.out _ (E.out.trans (mix_below _ x)))
  have QY := Lib.hid (fun x => HPY.out _ (E.out.trans (mix_below _ x)))
  refine wp_region_mix (by kernel_rfl) (by kernel_rfl) ?_
  repeat quiet_step ((first | (go_at_call 53; with_reducible exact Calls.mix_same (QX.out _)) | (go_at_call 53; with_reducible exact Calls.mix_same (QY.out _)) | (go_at_call 52; with_reducible exact Calls.mix_same (K52.out _))))
  refine wpQuiet_nil ?_
  rintro _ ⟨xx, rfl⟩
  have T := Lib.hid (E.out.trans (mix_below _ xx))
  have hbox : Hid ((mix ((w.alloc (.cells #[.int .u8 0, .int .i64 0, .int .i64 0, .int .i64 0, .int .i64 0, .complex .f64 0 0, .int .i64 0, .int .i64 0] 34)).alloc (.cells #[.int .u8 1, .int .i64 0, .int .i64 0, .int .i64 0, .int .i64 0, .complex .f64 0 0, .int .i64 0, .int .i64 0] 34)) xx).heap[w.heap.size]? = some (.cells #[.int .u8 0, .int .i64 0, .int .i64 0, .int .i64 0, .int .i64 0, .complex .f64 0 0, .int .i64 0, .int .i64 0] 34 (0, 0))) :=
    Lib.hid (Ext.heap (mix_below _ xx) ((Below.heap_alloc _ _ _ (by simp)).trans (World.alloc_heap_new w _)))
  have hbox2 : Hid ((mix ((w.alloc (.cells #[.int .u8 0, .int .i64 0, .int .i64 0, .int .i64 0, .int .i64 0, .complex .f64 0 0, .int .i64 0, .int .i64 0] 34)).alloc (.cells #[.int .u8 1, .int .i64 0, .int .i64 0, .int .i64 0, .int .i64 0, .complex .f64 0 0, .int .i64 0, .int .i64 0] 34)) xx).heap[w.heap.size + 1]? = some (.cells #[.int .u8 1, .int .i64 0, .int .i64 0, .int .i64 0, .int .i64 0, .complex .f64 0 0, .int .i64 0, .int .i64 0] 34 (0, 0))) :=
    Lib.hid (Ext.heap (mix_below _ xx) (heap_top (by simp)))
  clear QX QY E
  generalize mix ((w.alloc (.cells #[.int .u8 0, .int .i64 0, .int .i64 0, .int .i64 0, .int .i64 0, .complex .f64 0 0, .int .i64 0, .int .i64 0] 34)).alloc (.cells #[.int .u8 1, .int .i64 0, .int .i64 0, .int .i64 0, .int .i64 0, .complex .f64 0 0, .int .i64 0, .int .i64 0] 34)) xx = W6 at *
  obtain ⟨a0, a1, a2, a3, a4, a5, a6, a7⟩ := row8 hbox.out
  have bf := row_free hbox.out
  go_wp2
  exact bodyPost_ret (v := .tuple #[zrec, .int .i64 11]) (res27 rfl rfl (set8_heap hbox.out 0 0 0 0 0 0 0 0 0)) rfl ⟨rfl, set8 T.out _ _ _ _ _ _ _ _⟩

set_option maxHeartbeats 2000000 in
set_option maxRecDepth 100000 in
theorem rtake_one (b off cap : Nat) (l : List Int) (w : World) (hl : l.length = 19) (hrow : Row w b off (1 :: l)) (hc : 20 ≤ cap) (cr ci : Nat)
    (H52 : ∀ w, Calls Try.prog 52 #[.int .i64 (p32 (numOf ((l.drop 11).take 4))), .int .i64 (p32 (numOf ((l.drop 15).take 4)))] w fun e w' => e = .returned (.tuple #[.complex .f64 cr ci, .int .i64 0]) ∧ w = w') (ok : Bool)
    (H17 : ∀ w, Calls Try.prog 17 #[.agg #[.int .u8 1, .int .i64 (numOf (l.take 6)), .int .i64 (numOf ((l.drop 6).take 1)), .int .i64 (numOf ((l.drop 7).take 3)), .int .i64 (numOf ((l.drop 10).take 1)), .complex .f64 cr ci, .int .i64 0, .int .i64 0]] w fun e w' => e = .returned (.bool ok) ∧ Ext w w') :
    Calls Try.prog 27 #[.slice (some ⟨b, off, none⟩) 20 cap] w fun e w' => e = .returned (if ok then .tuple #[.agg #[.int .u8 1, .int .i64 (numOf (l.take 6)), .int .i64 (numOf ((l.drop 6).take 1)), .int .i64 (numOf ((l.drop 7).take 3)), .int .i64 (numOf ((l.drop 10).take 1)), .complex .f64 cr ci, .int .i64 0, .int .i64 0], .int .i64 0] else .tuple #[zrec, .int .i64 11]) ∧ Ext w w' := by
  have K52 := Lib.hid H52
  have hk : w.cell? ⟨b, off, none⟩ = some (.int .u8 1) := by have := hrow.cell 0 (by simp); simpa using this
  have PX := fun W (h : Ext w W) => rpart_num b (off + 12) (cap - 12) ((l.drop 11).take 4) W (h.row (row_part hrow 11 4 (by omega))) (part_len l 11 4 (by omega)) (by omega)
  have PY := fun W (h : Ext w W) => rpart_num b (off + 16) (cap - 16) ((l.drop 15).take 4) W (h.row (row_part hrow 15 4 (by omega))) (part_len l 15 4 (by omega)) (by omega)
  have HPX := Lib.hid PX
  have HPY := Lib.hid PY
  have hb : b < w.heap.size := by obtain ⟨o, ho, _⟩ := cells_of_cell hk; exact heap_lt ho
  have K17 := Lib.hid H17
  obtain ⟨c6, s6, S6⟩ := row_at hrow 6 (by omega)
  obtain ⟨c10, s10, S10⟩ := row_at hrow 10 (by omega)
  rw [← numOf_one l 6 (by omega)] at c6 s6 S6
  rw [← numOf_one l 10 (by omega)] at c10 s10 S10
  have P0 := fun W (h : Ext w W) => rtake_num b (off + 1) (cap - 1) (l.take 6) W (h.row (by have := row_part hrow 0 6 (by omega); simpa using this)) (by rw [List.length_take]; omega) (by rw [List.length_take]; omega) (by rw [List.length_take]; omega)
  rw [show (l.take 6).length = 6 by rw [List.length_take]; omega] at P0
  have P7 := fun W (h : Ext w W) => rtake_num b (off + 8) (cap - 8) ((l.drop 7).take 3) W (h.row (row_part hrow 7 3 (by omega))) (by rw [part_len l 7 3 (by omega)]; decide) (by rw [part_len l 7 3 (by omega)]; decide) (by rw [part_len l 7 3 (by omega)]; omega)
  rw [part_len l 7 3 (by omega)] at P7
  have HP0 := Lib.hid P0
  have HP7 := Lib.hid P7
  clear H52 H17 PX PY P0 P7 hrow hl
  generalize numOf (l.take 6) = t0 at *
  generalize numOf ((l.drop 6).take 1) = t1 at *
  generalize numOf ((l.drop 7).take 3) = t2 at *
  generalize numOf ((l.drop 10).take 1) = t3 at *
  generalize p32 (numOf ((l.drop 11).take 4)) = x0 at *
  generalize p32 (numOf ((l.drop 15).take 4)) = y0 at *
  have cz : ¬ cap = 12 := by omega
  have cz1 : ¬ cap = 1 := by omega
  have cz8 : ¬ cap = 8 := by omega
  have cw7 : (7 : Int) ≤ (cap : Int) := by omega
  have cw11 : (11 : Int) ≤ (cap : Int) := by omega
  have z1 : IntKind.i64.wrap t1 = t1 := IntWalk.i64_in _ (by omega)
  have z3 : IntKind.i64.wrap t3 = t3 := IntWalk.i64_in _ (by omega)
  have cy : ¬ cap = 16 := by omega
  have cw : (16 : Int) ≤ (cap : Int) := by omega
  have cz' : (20 : Int) ≤ (cap : Int) := by omega
  go_enter Try.func27, Try.ntmps27
  go_wp2_with (go_at_call 50; refine (rsize_1 _).mono ?_; rintro e w' ⟨rfl, rfl⟩)
  have E : Hid (Ext w ((w.alloc (.cells #[.int .u8 0, .int .i64 0, .int .i64 0, .int .i64 0, .int .i64 0, .complex .f64 0 0, .int .i64 0, .int .i64 0] 34)).alloc (.cells #[.int .u8 1, .int .i64 0, .int .i64 0, .int .i64 0, .int .i64 0, .complex .f64 0 0, .int .i64 0, .int .i64 0] 34))) := Lib.hid (((Ext.refl w).alloc _).alloc _)
  have QX := Lib.hid (fun x => HPX.out _ (E.out.trans (mix_below _ x)))
  have QY := Lib.hid (fun x => HPY.out _ (E.out.trans (mix_below _ x)))
  refine wp_region_mix (by kernel_rfl) (by kernel_rfl) ?_
  repeat quiet_step ((first | (go_at_call 53; with_reducible exact Calls.mix_same (QX.out _)) | (go_at_call 53; with_reducible exact Calls.mix_same (QY.out _)) | (go_at_call 52; with_reducible exact Calls.mix_same (K52.out _))))
  refine wpQuiet_nil ?_
  rintro _ ⟨xx, rfl⟩
  have T := Lib.hid (E.out.trans (mix_below _ xx))
  have hbox : Hid ((mix ((w.alloc (.cells #[.int .u8 0, .int .i64 0, .int .i64 0, .int .i64 0, .int .i64 0, .complex .f64 0 0, .int .i64 0, .int .i64 0] 34)).alloc (.cells #[.int .u8 1, .int .i64 0, .int .i64 0, .int .i64 0, .int .i64 0, .complex .f64 0 0, .int .i64 0, .int .i64 0] 34)) xx).heap[w.heap.size]? = some (.cells #[.int .u8 0, .int .i64 0, .int .i64 0, .int .i64 0, .int .i64 0, .complex .f64 0 0, .int .i64 0, .int .i64 0] 34 (0, 0))) :=
    Lib.hid (Ext.heap (mix_below _ xx) ((Below.heap_alloc _ _ _ (by simp)).trans (World.alloc_heap_new w _)))
  have hbox2 : Hid ((mix ((w.alloc (.cells #[.int .u8 0, .int .i64 0, .int .i64 0, .int .i64 0, .int .i64 0, .complex .f64 0 0, .int .i64 0, .int .i64 0] 34)).alloc (.cells #[.int .u8 1, .int .i64 0, .int .i64 0, .int .i64 0, .int .i64 0, .complex .f64 0 0, .int .i64 0, .int .i64 0] 34)) xx).heap[w.heap.size + 1]? = some (.cells #[.int .u8 1, .int .i64 0, .int .i64 0, .int .i64 0, .int .i64 0, .complex .f64 0 0, .int .i64 0, .int .i64 0] 34 (0, 0))) :=
    Lib.hid (Ext.heap (mix_below _ xx) (heap_top (by simp)))
  clear QX QY E
  generalize mix ((w.alloc (.cells #[.int .u8 0, .int .i64 0, .int .i64 0, .int .i64 0, .int .i64 0, .complex .f64 0 0, .int .i64 0, .int .i64 0] 34)).alloc (.cells #[.int .u8 1, .int .i64 0, .int .i64 0, .int .i64 0, .int .i64 0, .complex .f64 0 0, .int .i64 0, .int .i64 0] 34)) xx = W6 at *
  have e6 := T.out.cell c6
  have e10 := T.out.cell c10
  have S0 := (HP0.out _ T.out.drew).mono (R' := fun e w'' => e = .returned (.int .i64 t0) ∧ w'' = W6.drew) (fun e w'' h => ⟨h.1, h.2.symm⟩)
  have S7 := (HP7.out _ T.out.drew).mono (R' := fun e w'' => e = .returned (.int .i64 t2) ∧ w'' = W6.drew) (fun e w'' h => ⟨h.1, h.2.symm⟩)
  have HS0 := Lib.hid S0
  have HS7 := Lib.hid S7
  clear S0 S7
  obtain ⟨a0, a1, a2, a3, a4, a5, a6, a7⟩ := row8 hbox.out
  have bf := row_free hbox.out
  obtain ⟨d0, d1, d2, d3, d4, d5, d6, d7⟩ := row8 hbox2.out
  have df := row_free hbox2.out
  have lt6 : b < W6.heap.size := Nat.lt_of_lt_of_le hb (Below.size T.out)
  go_wp2
  refine wp_region_still_tail 17 (by kernel_rfl) (by kernel_rfl) ?_
  simp only [List.take_succ_cons, List.take_zero, List.drop_succ_cons, List.drop_zero]
  repeat still_step
  still_call HS0.out
  repeat still_step
  still_call HS7.out
  repeat still_step
  try refine wpStill_nil ?_
  have XT : Hid (Ext w (((((W6.setCell ⟨w.heap.size + 1, 1, none⟩ (.int .i64 t0)).setCell ⟨w.heap.size + 1, 2, none⟩ (.int .i64 t1)).setCell ⟨w.heap.size + 1, 3, none⟩ (.int .i64 t2)).setCell ⟨w.heap.size + 1, 4, none⟩ (.int .i64 t3)).setCell ⟨w.heap.size + 1, 5, none⟩ (.complex .f64 cr ci)).drew) := Lib.hid (Ext.drew (Below.setCell (p := ⟨w.heap.size + 1, 5, none⟩) (Below.setCell (p := ⟨w.heap.size + 1, 4, none⟩) (Below.setCell (p := ⟨w.heap.size + 1, 3, none⟩) (Below.setCell (p := ⟨w.heap.size + 1, 2, none⟩) (Below.setCell (p := ⟨w.heap.size + 1, 1, none⟩) T.out (Nat.le_succ _) _) (Nat.le_succ _) _) (Nat.le_succ _) _) (Nat.le_succ _) _) (Nat.le_succ _) _))
  have XB1 : Hid ((((((W6.setCell ⟨w.heap.size + 1, 1, none⟩ (.int .i64 t0)).setCell ⟨w.heap.size + 1, 2, none⟩ (.int .i64 t1)).setCell ⟨w.heap.size + 1, 3, none⟩ (.int .i64 t2)).setCell ⟨w.heap.size + 1, 4, none⟩ (.int .i64 t3)).setCell ⟨w.heap.size + 1, 5, none⟩ (.complex .f64 cr ci)).drew.heap[w.heap.size]? = some (.cells #[.int .u8 0, .int .i64 0, .int .i64 0, .int .i64 0, .int .i64 0, .complex .f64 0 0, .int .i64 0, .int .i64 0] 34 (0, 0))) := Lib.hid (by
    simp [World.drew, World.setCell, Array.getElem?_modify, hbox.out])
  have XB2 : Hid ((((((W6.setCell ⟨w.heap.size + 1, 1, none⟩ (.int .i64 t0)).setCell ⟨w.heap.size + 1, 2, none⟩ (.int .i64 t1)).setCell ⟨w.heap.size + 1, 3, none⟩ (.int .i64 t2)).setCell ⟨w.heap.size + 1, 4, none⟩ (.int .i64 t3)).setCell ⟨w.heap.size + 1, 5, none⟩ (.complex .f64 cr ci)).drew.heap[w.heap.size + 1]? = some (.cells #[.int .u8 1, .int .i64 t0, .int .i64 t1, .int .i64 t2, .int .i64 t3, .complex .f64 cr ci, .int .i64 0, .int .i64 0] 34 (0, 0))) := Lib.hid (by
    simp [World.drew, World.setCell, Array.getElem?_modify, hbox2.out])
  change wpList _ _ _ _ _ W6.drew
  cases ok
  · go_wp2_with fail
    refine (K17.out _).mono ?_
    rintro e w2 ⟨rfl, hE⟩
    have T2 := Lib.hid (Ext.trans XT.out hE)
    have B1 := Lib.hid (hE.heap XB1.out)
    have B2 := hE.heap XB2.out
    obtain ⟨m0, m1, m2, m3, m4, m5, m6, m7⟩ := row8 B1.out
    obtain ⟨n0, n1, n2, n3, n4, n5, n6, n7⟩ := row8 B2
    have mf := row_free B1.out
    clear B2 hE XT XB1 XB2 a0 a1 a2 a3 a4 a5 a6 a7 d0 d1 d2 d3 d4 d5 d6 d7 bf df e6 e10
    go_wp2
    exact bodyPost_ret (v := .tuple #[zrec, .int .i64 11]) (res27 rfl rfl (set8_heap B1.out 0 0 0 0 0 0 0 0 0)) rfl ⟨rfl, set8 T2.out _ _ _ _ _ _ _ _⟩
  · go_wp2_with fail
    refine (K17.out _).mono ?_
    rintro e w2 ⟨rfl, hE⟩
    have T2 := Lib.hid (Ext.trans XT.out hE)
    have B1 := Lib.hid (hE.heap XB1.out)
    have B2 := hE.heap XB2.out
    obtain ⟨m0, m1, m2, m3, m4, m5, m6, m7⟩ := row8 B1.out
    obtain ⟨n0, n1, n2, n3, n4, n5, n6, n7⟩ := row8 B2
    have mf := row_free B1.out
    clear B2 hE XT XB1 XB2 a0 a1 a2 a3 a4 a5 a6 a7 d0 d1 d2 d3 d4 d5 d6 d7 bf df e6 e10
    go_wp2
    exact bodyPost_ret (v := .tuple #[.agg #[.int .u8 1, .int .i64 t0, .int .i64 t1, .int .i64 t2, .int .i64 t3, .complex .f64 cr ci, .int .i64 0, .int .i64 0], .int .i64 0]) (res27 rfl rfl (set8_heap B1.out 1 t0 t1 t2 t3 cr ci 0 0)) rfl ⟨rfl, set8 T2.out _ _ _ _ _ _ _ _⟩

theorem rtake_rec (b off cap : Nat) (zs : List Int) (w : World) (hrow : Row w b off zs) (hcap : zs.length ≤ cap) :
    Calls Try.prog 27 #[.slice (some ⟨b, off, none⟩) zs.length cap] w fun e w' => e = .returned (.tuple #[(takeD zs).1.val, .int .i64 (takeD zs).2]) ∧ Ext w w' := by
  have hz : (RecD.zero).val = zrec := RecD.zero_val
  match zs, hrow, hcap with
  | [], _, _ =>
    simp only [takeD, hz, List.length_nil]
    exact rtake_empty _ cap w
  | k :: l, hrow, hcap =>
    have hk : w.cell? ⟨b, off, none⟩ = some (.int .u8 k) := by have := hrow.cell 0 (by simp); simpa using this
    have hlen : (k :: l).length = l.length + 1 := rfl
    rw [hlen] at hcap ⊢
    by_cases h1 : k = 1
    · by_cases c1 : l.length < 19
      · have e : takeD (k :: l) = (RecD.zero, 50) := by simp [takeD, c1, h1]
        rw [e, hz]
        subst h1
        exact rtake_short b off (l.length + 1) cap 1 20 w (by omega) hk (by omega) rsize_1
      by_cases c2 : 19 < l.length
      · have e : takeD (k :: l) = (RecD.zero, 11) := by simp [takeD, c1, c2, h1]
        rw [e, hz]
        subst h1
        exact rtake_long b off (l.length + 1) cap 1 20 w (by omega) hk (by decide) (by omega) rsize_1
      have hl : l.length = 19 := by omega
      rw [hl] at hcap ⊢
      by_cases c3 : (eventOf l).inside = true
      · have hi := (RecD.inside_iff _).1 c3
        have e : takeD (k :: l) = if (eventOf l).right then (eventOf l, 0) else (RecD.zero, 11) := by simp only [takeD, if_pos h1, if_neg c1, if_neg c2, c3, Bool.true_and]
        rw [e]
        subst h1
        have H := rtake_one b off cap l w hl hrow hcap (fb (eventOf l).x) (fb (eventOf l).y) (fun w => rmake_in _ _ hi.1 hi.2 w) (eventOf l).right (fun w => rright_rec (eventOf l) c3 w)
        refine H.mono ?_
        rintro e w' ⟨rfl, hb⟩
        refine ⟨?_, hb⟩
        cases (eventOf l).right
        · simp [hz]
        · rfl
      · have hi : ¬ ((eventOf l).x.natAbs ≤ 1048576 ∧ (eventOf l).y.natAbs ≤ 1048576) := fun h => c3 ((RecD.inside_iff _).2 h)
        have e : takeD (k :: l) = (RecD.zero, 11) := by
          have c3' : (eventOf l).inside = false := by simpa using c3
          simp only [takeD, if_pos h1, if_neg c1, if_neg c2, c3', Bool.false_and, Bool.false_eq_true, if_false]
        rw [e, hz]
        subst h1
        exact rtake_one_out b off cap l w hl hrow hcap (fun w => rmake_out _ _ hi w)
    · by_cases h2 : k = 2
      · by_cases c1 : l.length < 7
        · have e : takeD (k :: l) = (RecD.zero, 50) := by simp [takeD, c1, h2]
          rw [e, hz]
          subst h2
          exact rtake_short b off (l.length + 1) cap 2 8 w (by omega) hk (by omega) rsize_2
        by_cases c2 : 7 < l.length
        · have e : takeD (k :: l) = (RecD.zero, 11) := by simp [takeD, c1, c2, h2]
          rw [e, hz]
          subst h2
          exact rtake_long b off (l.length + 1) cap 2 8 w (by omega) hk (by decide) (by omega) rsize_2
        have hl : l.length = 7 := by omega
        rw [hl] at hcap ⊢
        have e : takeD (k :: l) = if (markOf l).right then (markOf l, 0) else (RecD.zero, 11) := by simp only [takeD, if_neg h1, if_pos h2, if_neg c1, if_neg c2]
        rw [e]
        subst h2
        have H := rtake_two b off cap l w hl hrow hcap (markOf l).right (fun w => rrRight_Pt (x := 0) (y := 0) ⟨FI_0, FI_0, by decide, by decide⟩ w)
        refine H.mono ?_
        rintro e w' ⟨rfl, hb⟩
        refine ⟨?_, hb⟩
        cases (markOf l).right
        · simp [hz]
        · simp [RecD.val, markOf, fb0]
      · have e : takeD (k :: l) = (RecD.zero, 11) := by simp [takeD, h1, h2]
        rw [e, hz]
        exact rtake_form b off (l.length + 1) cap k w (by omega) hk h1 h2

end Go.Proofs.Ytcbneobdelbhlaa
