/-
  The law's own wakes of package split.
-/
import Derived.Test.YtcbneobdelbhlaaSh
namespace Go.Proofs.Ytcbneobdelbhlaa
open Go.RowKit Go.Shelf

theorem pieces_wakes : pieces [2, 7, 8, 0, 3, 9] = [⟨0, [7, 8], false⟩, ⟨3, [], false⟩, ⟨4, [9], true⟩] := by
  simp [pieces, pcs]

theorem all_wakes (b : Nat) (w : World) (hr : Row w b 0 [2, 7, 8, 0, 3, 9]) (hb : b < w.heap.size) :
    Calls Try.prog 20 #[.slice (some ⟨b, 0, none⟩) 6 6] w fun e w' => ∃ g c xs, e = .returned (.slice (some ⟨g, 0, none⟩) 3 c) ∧ PiecesAt w' w.heap.size (.slice (some ⟨g, 0, none⟩) 3 c) xs ∧
      xs.map PX.d = [⟨0, [7, 8], false⟩, ⟨3, [], false⟩, ⟨4, [9], true⟩] ∧ Ext w w' := by
  refine (all_any b 0 6 6 _ w rfl (by decide) (by decide) hr hb).mono ?_
  rintro e w' ⟨v, rfl, xs, h1, h2, h3, h4⟩
  rw [pieces_wakes] at h3
  have hl : xs.length = 3 := by have := congrArg List.length h3; simpa using this
  have h1' := h1
  rw [hl] at h1'
  obtain ⟨g, c, rfl, _, _⟩ := h1'.form (by decide)
  exact ⟨g, c, xs, rfl, ⟨h1, h2⟩, h3, h4⟩

theorem recs_wakes (b cap : Nat) (w : World) (hr : Row w b 0 [8, 2, 3, 0, 0, 0, 0, 0, 9]) (hc : 9 ≤ cap) (hb : b < w.heap.size) :
    Calls Try.prog 23 #[.slice (some ⟨b, 0, none⟩) 9 cap] w fun e w' => ∃ g c, e = .returned (.slice (some ⟨g, 0, none⟩) 1 c) ∧ w'.cell? ⟨g, 6, none⟩ = some (.int .i64 3) ∧ w'.cell? ⟨g, 7, none⟩ = some (.int .i64 9) ∧ Ext w w' := by
  refine (recs_any b 0 9 cap _ w rfl (by decide) hc hr hb).mono ?_
  rintro e w' ⟨v, rfl, h1, h4⟩
  have e : recsD [8, 2, 3, 0, 0, 0, 0, 0, 9] = [mark9] := by rfl
  rw [e] at h1
  obtain ⟨g, c, rfl, _, _⟩ := h1.form (by decide)
  exact ⟨g, c, rfl, by rw [World.ownsRow.cellAt h1 6 (by decide)]; rfl, by rw [World.ownsRow.cellAt h1 7 (by decide)]; rfl, h4⟩

theorem rec_wakes (w : World) : Calls Try.prog 26 #[.agg #[.int .i64 0, .slice none 0 0, .bool false]] w fun e w' => e = .returned (.tuple #[.agg #[.int .u8 0, .int .i64 0, .int .i64 0, .int .i64 0, .int .i64 0, .complex .f64 0 0, .int .i64 0, .int .i64 0], .int .i64 11]) ∧ Ext w w' :=
  rec_bad 0 none 0 0 false w (.inr rfl) (fun _ => ⟨rfl, rfl⟩)

theorem join_wakes (gl b : Nat) (w : World) (h0 : w.cell? ⟨gl, 0, none⟩ = some (.slice (some ⟨b, 0, none⟩) 2 2)) (h1 : w.cell? ⟨gl, 1, none⟩ = some (.slice none 0 0)) (hr : Row w b 0 [7, 8]) :
    Calls Try.prog 22 #[.slice (some ⟨gl, 0, none⟩) 2 2] w fun e w' => ∃ g c, e = .returned (.tuple #[.slice (some ⟨g, 0, none⟩) 4 c, .int .i64 0]) ∧ Row w' g 0 [2, 7, 8, 0] ∧ Ext w w' := by
  refine (join_any gl 2 2 [⟨some ⟨b, 0, none⟩, 2, [7, 8]⟩, ⟨none, 0, []⟩] w rfl (by decide) (by intro x hx; simp at hx; rcases hx with rfl | rfl <;> simp) ?_ ?_).mono ?_
  · intro j x hx
    match j, hx with
    | 0, hx => simp at hx; subst hx; rw [h0]; rfl
    | 1, hx => simp at hx; subst hx; rw [h1]; rfl
  · intro x hx
    simp at hx
    rcases hx with rfl | rfl
    · exact .inr ⟨b, 0, rfl, hr⟩
    · exact .inl ⟨rfl, rfl, rfl⟩
  · rintro e w' ⟨v, rfl, hown, hE⟩
    obtain ⟨g, c, rfl, _, _, h3⟩ := row_of_join (n := 4) (zs := [2, 7, 8, 0]) rfl (by decide) (by decide) hown
    exact ⟨g, c, rfl, h3, hE⟩

theorem same_wakes {W : World} {g1 c1 base : Nat} {xs : List PX} (hP : PiecesAt W base (.slice (some ⟨g1, 0, none⟩) 3 c1) xs) (hd : xs.map PX.d = [⟨0, [7, 8], false⟩, ⟨3, [], false⟩, ⟨4, [9], true⟩]) :
    ∀ j, j < 3 → SameAt (((W.alloc (.cells #[.int .u8 7, .int .u8 8] 5)).alloc (.cells #[.int .u8 9] 5)).alloc (.cells #[.int .i64 0, .slice (some ⟨W.heap.size, 0, none⟩) 2 2, .bool false, .int .i64 3, .slice none 0 0, .bool false, .int .i64 4, .slice (some ⟨W.heap.size + 1, 0, none⟩) 1 1, .bool true] 46)) g1 (W.heap.size + 1 + 1) j := by
  have E : Ext W (((W.alloc (.cells #[.int .u8 7, .int .u8 8] 5)).alloc (.cells #[.int .u8 9] 5)).alloc (.cells #[.int .i64 0, .slice (some ⟨W.heap.size, 0, none⟩) 2 2, .bool false, .int .i64 3, .slice none 0 0, .bool false, .int .i64 4, .slice (some ⟨W.heap.size + 1, 0, none⟩) 1 1, .bool true] 46)) := (((Ext.refl W).alloc _).alloc _).alloc _
  have hA : Row (((W.alloc (.cells #[.int .u8 7, .int .u8 8] 5)).alloc (.cells #[.int .u8 9] 5)).alloc (.cells #[.int .i64 0, .slice (some ⟨W.heap.size, 0, none⟩) 2 2, .bool false, .int .i64 3, .slice none 0 0, .bool false, .int .i64 4, .slice (some ⟨W.heap.size + 1, 0, none⟩) 1 1, .bool true] 46)) W.heap.size 0 [7, 8] := ((row_new (w := W) (t := 5) [7, 8] (by decide)).alloc _).alloc _
  have hB : Row (((W.alloc (.cells #[.int .u8 7, .int .u8 8] 5)).alloc (.cells #[.int .u8 9] 5)).alloc (.cells #[.int .i64 0, .slice (some ⟨W.heap.size, 0, none⟩) 2 2, .bool false, .int .i64 3, .slice none 0 0, .bool false, .int .i64 4, .slice (some ⟨W.heap.size + 1, 0, none⟩) 1 1, .bool true] 46)) (W.heap.size + 1) 0 [9] := by
    have := (row_new (w := W.alloc (.cells #[.int .u8 7, .int .u8 8] 5)) (t := 5) [9] (by decide)).alloc (.cells #[.int .i64 0, .slice (some ⟨W.heap.size, 0, none⟩) 2 2, .bool false, .int .i64 3, .slice none 0 0, .bool false, .int .i64 4, .slice (some ⟨W.heap.size + 1, 0, none⟩) 1 1, .bool true] 46)
    simpa using this
  have hC : (((W.alloc (.cells #[.int .u8 7, .int .u8 8] 5)).alloc (.cells #[.int .u8 9] 5)).alloc (.cells #[.int .i64 0, .slice (some ⟨W.heap.size, 0, none⟩) 2 2, .bool false, .int .i64 3, .slice none 0 0, .bool false, .int .i64 4, .slice (some ⟨W.heap.size + 1, 0, none⟩) 1 1, .bool true] 46)).heap[W.heap.size + 1 + 1]? =
      some (.cells #[.int .i64 0, .slice (some ⟨W.heap.size, 0, none⟩) 2 2, .bool false, .int .i64 3, .slice none 0 0, .bool false, .int .i64 4, .slice (some ⟨W.heap.size + 1, 0, none⟩) 1 1, .bool true] 46 (0, 0)) := heap_top (by simp)
  generalize (((W.alloc (.cells #[.int .u8 7, .int .u8 8] 5)).alloc (.cells #[.int .u8 9] 5)).alloc (.cells #[.int .i64 0, .slice (some ⟨W.heap.size, 0, none⟩) 2 2, .bool false, .int .i64 3, .slice none 0 0, .bool false, .int .i64 4, .slice (some ⟨W.heap.size + 1, 0, none⟩) 1 1, .bool true] 46)) = V at *
  have hP2 := hP.ext E
  match xs, hd, hP2 with
  | [x0, x1, x2], hd, hP2 =>
    simp only [List.map_cons, List.map_nil, List.cons.injEq, and_true] at hd
    obtain ⟨e0, e1, e2⟩ := hd
    intro j hj
    match j, hj with
    | 0, _ =>
      obtain ⟨a0, a1, a2⟩ := hP2.cell (j := 0) (x := x0) rfl
      rw [e0] at a0 a1 a2
      exact ⟨_, _, [7, 8], _, _, _, _, _, _, a0, a1, a2, by rw [cell_of_row _ _ _ _ _ _ hC]; rfl, by rw [cell_of_row _ _ _ _ _ _ hC]; rfl, by rw [cell_of_row _ _ _ _ _ _ hC]; rfl,
        fun W' h => ⟨by have := PX.conv (owns_ext (hP2.own x0 (by simp)) h) (by rw [e0]; decide); rw [e0] at this; exact this, Conv.of_row (h.row hA) rfl⟩⟩
    | 1, _ =>
      obtain ⟨a0, a1, a2⟩ := hP2.cell (j := 1) (x := x1) rfl
      rw [e1] at a0 a1 a2
      exact ⟨_, _, [], _, _, _, _, _, _, a0, a1, a2, by rw [cell_of_row _ _ _ _ _ _ hC]; rfl, by rw [cell_of_row _ _ _ _ _ _ hC]; rfl, by rw [cell_of_row _ _ _ _ _ _ hC]; rfl,
        fun W' h => ⟨by have := PX.conv (owns_ext (hP2.own x1 (by simp)) h) (by rw [e1]; decide); rw [e1] at this; exact this, Conv.zero W' none 0⟩⟩
    | 2, _ =>
      obtain ⟨a0, a1, a2⟩ := hP2.cell (j := 2) (x := x2) rfl
      rw [e2] at a0 a1 a2
      exact ⟨_, _, [9], _, _, _, _, _, _, a0, a1, a2, by rw [cell_of_row _ _ _ _ _ _ hC]; rfl, by rw [cell_of_row _ _ _ _ _ _ hC]; rfl, by rw [cell_of_row _ _ _ _ _ _ hC]; rfl,
        fun W' h => ⟨by have := PX.conv (owns_ext (hP2.own x2 (by simp)) h) (by rw [e2]; decide); rw [e2] at this; exact this, Conv.of_row (h.row hB) rfl⟩⟩

theorem all_none (A : Option Addr) (cap : Nat) (w : World) : Calls Try.prog 20 #[.slice A 0 cap] w fun e w' => ∃ B c, e = .returned (.slice B 0 c) ∧ Ext w w' := by
  refine (all_empty A cap w).mono ?_
  rintro e w' ⟨v, rfl, xs, h1, _, h3, h4⟩
  have hl : xs.length = 0 := by have := congrArg List.length h3; rw [List.length_map] at this; exact this
  rw [hl] at h1
  rcases h1.2 with ⟨rfl, _⟩ | ⟨g, c, _, rfl, _⟩
  · exact ⟨_, _, rfl, h4⟩
  · exact ⟨_, _, rfl, h4⟩

def z256 : Array Value := Array.replicate 256 (.int .u8 0)
theorem run_make256 (w : World) : (Instr.makeSlice 30 (.int .i64 256) (.int .i64 256)).run Try.prog w = .ok (.slice (some ⟨w.heap.size, 0, none⟩) 256 256) (w.alloc (.cells z256 5)) := by kernel_rfl

set_option maxHeartbeats 4000000 in
set_option maxRecDepth 100000 in
theorem wakes06 (w : World) : Calls Try.prog 19 #[] w fun e w' => e = .returned (.bool true) ∧ Ext w w' := by
  go_enter Try.func19, Try.ntmps19
  go_wp2_with fail
  refine (all_wakes _ _ (by have := row_new (w := w) (t := 5) [2, 7, 8, 0, 3, 9] (by decide); simpa using this) (by simp)).mono ?_
  rintro e w1 ⟨g1, c1, xs, rfl, hP, hd, hB⟩
  have T1 : Hid (Ext w w1) := Lib.hid (Ext.of1 hB)
  have P1 := Lib.hid hP
  have HD := Lib.hid hd
  clear hB hP hd
  go_wp2_with fail
  refine (join_wakes _ w1.heap.size _ (by simp [go_sem]) (by simp [go_sem]) (by have := (row_new (w := w1) (t := 5) [7, 8] (by decide)).alloc (.cells #[.slice (some ⟨w1.heap.size, 0, none⟩) 2 2, .slice none 0 0] 30); simpa using this)).mono ?_
  rintro e w2 ⟨g2, c2, rfl, hr, hB⟩
  have E2 : Ext w1 w2 := Ext.of2 hB
  have T2 : Hid (Ext w w2) := Lib.hid (T1.out.trans E2)
  have P2 := Lib.hid (P1.out.ext E2)
  have R2 := Lib.hid hr
  clear hB hr T1 P1 E2
  have hmk := run_make256
  go_wp2_with fail
  refine (join_long _ w2.heap.size _ 256 _ (by simp [go_sem])).mono ?_
  rintro e w3 ⟨rfl, hB⟩
  have E3 : Ext w2 w3 := Ext.of2 hB
  have T3 : Hid (Ext w w3) := Lib.hid (T2.out.trans E3)
  have P3 := Lib.hid (P2.out.ext E3)
  have R3 := Lib.hid (E3.row R2.out)
  clear hB T2 P2 R2 E3 hmk
  go_wp2_with fail
  refine (rec_wakes _).mono ?_
  rintro e w4 ⟨rfl, hB⟩
  have T4 : Hid (Ext w w4) := Lib.hid (T3.out.trans hB)
  have P4 := Lib.hid (P3.out.ext hB)
  have R4 := Lib.hid (hB.row R3.out)
  clear hB T3 P3 R3
  go_wp2_with fail
  refine (split_put _ _ (heap_top (by simp))).mono ?_
  rintro e w5 ⟨g5, c5, rfl, h9, hm9, hr, hB⟩
  have E5 : Ext w4 w5 := Ext.of2 hB
  have T5 : Hid (Ext w w5) := Lib.hid (T4.out.trans E5)
  have P5 := Lib.hid (P4.out.ext E5)
  have R5 := Lib.hid (E5.row R4.out)
  have S5 := Lib.hid hr
  have hlt5 : g5 < w5.heap.size := by
    have := hr.cell 0 (by decide)
    obtain ⟨o, ho, _⟩ := cells_of_cell this
    exact heap_lt ho
  clear hB T4 P4 R4 E5 hr hm9
  go_wp2_with fail
  refine (recs_wakes _ _ _ S5.out h9 hlt5).mono ?_
  rintro e w6 ⟨g6, c6, rfl, k6, k7, hB⟩
  have T6 : Hid (Ext w w6) := Lib.hid (T5.out.trans hB)
  have P6 := Lib.hid (P5.out.ext hB)
  have R6 := Lib.hid (hB.row R5.out)
  clear hB T5 P5 R5 S5 hlt5 h9
  go_wp2_with fail
  refine (rpieces_core g1 _ 3 c1 3 _ (by decide) (same_wakes P6.out HD.out)).mono ?_
  rintro e w7 ⟨rfl, hB⟩
  have E7 : Ext w6 w7 := (((Ext.refl w6).alloc _).alloc _).alloc _ |>.trans hB
  have T7 : Hid (Ext w w7) := Lib.hid (T6.out.trans E7)
  have R7 := Lib.hid (E7.row R6.out)
  replace k6 := E7.cell k6
  replace k7 := E7.cell k7
  clear hB T6 P6 R6 E7 HD
  go_wp2_with fail
  refine (same_true _ _ _ _ _ _ [2, 7, 8, 0] _ (Conv.of_row (R7.out.alloc _) rfl) (Conv.of_row (by have := row_new (w := w7) (t := 5) [2, 7, 8, 0] (by decide); simpa using this) rfl)).mono ?_
  rintro e w8 ⟨rfl, rfl⟩
  have l6 : g6 < w7.heap.size := by obtain ⟨o, ho, _⟩ := cells_of_cell k6; exact heap_lt ho
  go_wp2_with fail
  refine (all_none none 0 _).mono ?_
  rintro e w9 ⟨B, c, rfl, hB⟩
  have E9 : Hid (Ext w w9) := Lib.hid (T7.out.trans (Ext.of1 hB))
  clear hB
  go_wp2
  go_ret
  exact ⟨rfl, E9.out⟩

end Go.Proofs.Ytcbneobdelbhlaa
