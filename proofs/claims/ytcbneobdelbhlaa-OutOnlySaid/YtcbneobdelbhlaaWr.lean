/-
  The law's own wakes of package wire.
-/
import Derived.Test.YtcbneobdelbhlaaWo
import Derived.Laws.BytesArg
namespace Go.Proofs.Ytcbneobdelbhlaa
open Go.RowKit Go.Shelf

/-- Whatever was there lies as it lay. -/
def Ext (w w' : World) : Prop := Below w.heap.size w w'
theorem Ext.refl (w : World) : Ext w w := Below.refl _ _
theorem Ext.trans {a b c : World} (h : Ext a b) (k : Ext b c) : Ext a c := Below.trans h (Below.mono k h.size)
theorem Ext.alloc {a b : World} (h : Ext a b) (o : Obj) : Ext a (b.alloc o) := Below.alloc h h.size o
theorem Ext.drew {a b : World} (h : Ext a b) : Ext a b.drew := Below.drew h
theorem Ext.of1 {w w' : World} {o : Obj} (h : Below (w.alloc o).heap.size (w.alloc o) w') : Ext w w' := ((Ext.refl w).alloc o).trans h
theorem Ext.of2 {w w' : World} {o p : Obj} (h : Below ((w.alloc o).alloc p).heap.size ((w.alloc o).alloc p) w') : Ext w w' := (((Ext.refl w).alloc o).alloc p).trans h
theorem Ext.cell {w w' : World} (h : Ext w w') {a : Addr} {v : Value} (hc : w.cell? a = some v) : w'.cell? a = some v := cell_below h hc
theorem Ext.heap {w w' : World} (h : Ext w w') {k : Nat} {o : Obj} (hk : w.heap[k]? = some o) : w'.heap[k]? = some o := (Below.block h k (heap_lt hk)).trans hk
theorem Ext.row {w w' : World} (h : Ext w w') {b off : Nat} {zs : List Int} (hr : Row w b off zs) : Row w' b off zs := ⟨fun i hi => h.cell (hr.cell i hi), hr.byte⟩

theorem row_of_owns {w : World} {base n : Nat} {v : Value} {zs : List Int} (h : w.ownsRow base 5 1 v n (zs.map (Value.int .u8))) (hn : 0 < n) (hb : ∀ x ∈ zs, 0 ≤ x ∧ x ≤ 255) :
    ∃ g cap, v = .slice (some ⟨g, 0, none⟩) n cap ∧ base ≤ g ∧ g < w.heap.size ∧ n ≤ cap ∧ cap ≤ maxLen ∧ Row w g 0 zs := by
  have hl : zs.length = n := by have := h.1; simpa using this
  rcases h.2 with ⟨_, h0⟩ | ⟨g, cap, cur, hv, hg, hh, hc, hm, _, _⟩
  · omega
  · refine ⟨g, cap, hv, hg, heap_lt hh, hc, hm, fun i hi => ?_, hb⟩
    subst hv
    rw [Nat.zero_add, h.cellAt i (by omega)]
    simp [List.getD_eq_getElem?_getD, List.getElem?_eq_getElem hi]

theorem row_new {w : World} {t : TypeId} (zs : List Int) (hb : ∀ x ∈ zs, 0 ≤ x ∧ x ≤ 255) : Row (w.alloc (.cells (zs.map (Value.int .u8)).toArray t)) w.heap.size 0 zs := by
  refine ⟨fun i hi => ?_, hb⟩
  rw [Nat.zero_add, cell_of_row _ _ _ _ _ _ (World.alloc_heap_new w _)]
  simp [List.getD_eq_getElem?_getD, List.getElem?_eq_getElem hi]

def mark0 : RecD := ⟨2, 0, 0, 0, 0, 0, 0, 3, 258⟩
def ev0 : RecD := ⟨1, 1, 2, 3, 4, -1, 2, 0, 0⟩
theorem fb0 : fb 0 = 0 := by kernel_rfl
theorem fbm1 : fb (-1) = 13830554455654793216 := by kernel_rfl
theorem fb2 : fb 2 = 4611686018427387904 := by kernel_rfl
theorem mark0_val : mark0.val = .agg #[.int .u8 2, .int .i64 0, .int .i64 0, .int .i64 0, .int .i64 0, .complex .f64 0 0, .int .i64 3, .int .i64 258] := by simp [mark0, RecD.val, fb0]
theorem ev0_val : ev0.val = .agg #[.int .u8 1, .int .i64 1, .int .i64 2, .int .i64 3, .int .i64 4, .complex .f64 13830554455654793216 4611686018427387904, .int .i64 0, .int .i64 0] := by simp [ev0, RecD.val, fbm1, fb2]
theorem mark0_bytes : mark0.bytes = [2, 3, 0, 0, 0, 0, 1, 2] := by decide
theorem ev0_bytes : ev0.bytes = [1, 0, 0, 0, 0, 0, 1, 2, 0, 0, 3, 4, 255, 255, 255, 255, 0, 0, 0, 2] := by decide

/-- What Put makes of a record, as the walk reads it. -/
def PutOk (zs : List Int) (n : Nat) (w : World) (e : Ending) (w' : World) : Prop := ∃ g cap, e = .returned (.tuple #[.slice (some ⟨g, 0, none⟩) n cap, .int .i64 0]) ∧ w.heap.size ≤ g ∧ g < w'.heap.size ∧ n ≤ cap ∧ cap ≤ maxLen ∧ Row w' g 0 zs ∧ Ext w w'

theorem put_ok (r : RecD) (zs : List Int) (n : Nat) (hi : r.inside = true) (hr : r.right = true) (hz : r.bytes = zs) (hn : zs.length = n) (hb : ∀ x ∈ zs, 0 ≤ x ∧ x ≤ 255) (w : World) : Calls Try.prog 16 #[r.val] w (PutOk zs n w) := by
  refine (put_rec r hi hr w).mono ?_
  rintro e w' ⟨v, rfl, hown, hB⟩
  rw [hz, hn] at hown
  have hpos : 0 < n := by rw [← hn, ← hz]; simp [RecD.bytes, bytesUp]
  obtain ⟨g, cap, rfl, h1, h2, h3, h4, h5⟩ := row_of_owns hown hpos hb
  exact ⟨g, cap, rfl, h1, h2, h3, h4, h5, hB⟩

theorem putOk_mark (w : World) : Calls Try.prog 16 #[.agg #[.int .u8 2, .int .i64 0, .int .i64 0, .int .i64 0, .int .i64 0, .complex .f64 0 0, .int .i64 3, .int .i64 258]] w (PutOk [2, 3, 0, 0, 0, 0, 1, 2] 8 w) := by
  rw [← mark0_val]; exact put_ok mark0 _ _ (by decide) (by decide) mark0_bytes rfl (by decide) w
theorem putOk_ev (w : World) : Calls Try.prog 16 #[.agg #[.int .u8 1, .int .i64 1, .int .i64 2, .int .i64 3, .int .i64 4, .complex .f64 13830554455654793216 4611686018427387904, .int .i64 0, .int .i64 0]] w (PutOk [1, 0, 0, 0, 0, 0, 1, 2, 0, 0, 3, 4, 255, 255, 255, 255, 0, 0, 0, 2] 20 w) := by
  rw [← ev0_val]; exact put_ok ev0 _ _ (by decide) (by decide) ev0_bytes rfl (by decide) w
theorem put_zero (w : World) : Calls Try.prog 16 #[.agg #[.int .u8 0, .int .i64 0, .int .i64 0, .int .i64 0, .int .i64 0, .complex .f64 0 0, .int .i64 0, .int .i64 0]] w fun e w' => e = .returned (.tuple #[.slice none 0 0, .int .i64 2]) ∧ Ext w w' := by
  show Calls Try.prog 16 #[zrec] w _
  rw [← RecD.zero_val]; exact put_no RecD.zero (by decide) (by decide) w

theorem take_mark (b cap : Nat) (w : World) (h : Row w b 0 [2, 3, 0, 0, 0, 0, 1, 2]) (h1 : 8 ≤ cap) (h2 : cap ≤ maxLen) :
    Calls Try.prog 15 #[.slice (some ⟨b, 0, none⟩) 8 cap] w fun e w' => e = .returned (.tuple #[.agg #[.int .u8 2, .int .i64 0, .int .i64 0, .int .i64 0, .int .i64 0, .complex .f64 0 0, .int .i64 3, .int .i64 258], .int .i64 0]) ∧ Ext w w' := by
  have := take_rec b 0 cap _ w h h1 h2
  have e : takeD [2, 3, 0, 0, 0, 0, 1, 2] = (mark0, 0) := by rfl
  rw [e] at this
  rw [← mark0_val]
  exact this
theorem take_nine (w : World) (b : Nat) (h : Row w b 0 [9]) : Calls Try.prog 15 #[.slice (some ⟨b, 0, none⟩) 1 1] w fun e w' => e = .returned (.tuple #[.agg #[.int .u8 0, .int .i64 0, .int .i64 0, .int .i64 0, .int .i64 0, .complex .f64 0 0, .int .i64 0, .int .i64 0], .int .i64 11]) ∧ Ext w w' := by
  have := take_rec b 0 1 _ w h (by decide) (by decide)
  have e : takeD [9] = (RecD.zero, 11) := by rfl
  rw [e, RecD.zero_val] at this
  exact this
theorem take_nil (w : World) : Calls Try.prog 15 #[.slice none 0 0] w fun e w' => e = .returned (.tuple #[.agg #[.int .u8 0, .int .i64 0, .int .i64 0, .int .i64 0, .int .i64 0, .complex .f64 0 0, .int .i64 0, .int .i64 0], .int .i64 50]) ∧ Ext w w' := wtake_empty none 0 w
theorem take_100 (w : World) (b : Nat) (h : Row w b 0 [1, 0, 0]) : Calls Try.prog 15 #[.slice (some ⟨b, 0, none⟩) 3 3] w fun e w' => e = .returned (.tuple #[.agg #[.int .u8 0, .int .i64 0, .int .i64 0, .int .i64 0, .int .i64 0, .complex .f64 0 0, .int .i64 0, .int .i64 0], .int .i64 50]) ∧ Ext w w' := by
  have := take_rec b 0 3 _ w h (by decide) (by decide)
  have e : takeD [1, 0, 0] = (RecD.zero, 50) := by rfl
  rw [e, RecD.zero_val] at this
  exact this

theorem rsame_mark (w : World) : Calls Try.prog 18 #[.agg #[.int .u8 2, .int .i64 0, .int .i64 0, .int .i64 0, .int .i64 0, .complex .f64 0 0, .int .i64 3, .int .i64 258], .agg #[.int .u8 2, .int .i64 0, .int .i64 0, .int .i64 0, .int .i64 0, .complex .f64 0 0, .int .i64 3, .int .i64 258]] w fun e w' => e = .returned (.bool true) ∧ Below w.heap.size w w' := by
  rw [← mark0_val]; exact rsame_rec mark0 mark0 (by decide) (by decide) w

set_option maxHeartbeats 1000000 in
set_option maxRecDepth 100000 in
theorem wakes05 (w : World) : Calls Try.prog 14 #[] w fun e w' => e = .returned (.bool true) ∧ Below w.heap.size w w' := by
  go_enter Try.func14, Try.ntmps14
  go_wp2_with fail
  refine (rmark_any 3 258 _).mono ?_
  rintro e w1 ⟨rfl, hB⟩
  have T1 : Hid (Ext w w1) := Lib.hid hB
  clear hB
  go_wp2_with fail
  refine (putOk_mark _).mono ?_
  rintro e w2 ⟨g1, cap1, rfl, -, hg1, hc1, hm1, hr, hB⟩
  have T2 : Hid (Ext w w2) := Lib.hid (T1.out.trans hB)
  have R2 := Lib.hid hr
  clear hB hr T1
  go_wp2_with fail
  refine (take_mark g1 cap1 _ R2.out hc1 hm1).mono ?_
  rintro e w3 ⟨rfl, hB⟩
  have T3 : Hid (Ext w w3) := Lib.hid (T2.out.trans hB)
  have R3 := Lib.hid (Ext.row hB R2.out)
  clear hB T2 R2
  go_wp2_with fail
  refine (take_nine _ _ (by have := row_new (w := w3.alloc (.cells #[.int .u8 2, .int .i64 0, .int .i64 0, .int .i64 0, .int .i64 0, .complex .f64 0 0, .int .i64 3, .int .i64 258] 34)) (t := 5) [9] (by decide); simpa using this)).mono ?_
  rintro e w4 ⟨rfl, hB⟩
  have E4 : Ext w3 w4 := Ext.of2 hB
  have T4 : Hid (Ext w w4) := Lib.hid (T3.out.trans E4)
  have R4 := Lib.hid (Ext.row E4 R3.out)
  have B4 : Hid (w4.heap[w3.heap.size]? = some (.cells #[.int .u8 2, .int .i64 0, .int .i64 0, .int .i64 0, .int .i64 0, .complex .f64 0 0, .int .i64 3, .int .i64 258] 34 (0, 0))) :=
    Lib.hid (Ext.heap hB ((Below.heap_alloc _ _ _ (by simp)).trans (World.alloc_heap_new _ _)))
  clear hB T3 R3 E4
  go_wp2_with fail
  refine (take_nil _).mono ?_
  rintro e w5 ⟨rfl, hB⟩
  have E5 : Ext w4 w5 := Ext.of1 hB
  have T5 : Hid (Ext w w5) := Lib.hid (T4.out.trans E5)
  have R5 := Lib.hid (Ext.row E5 R4.out)
  have B5 := Lib.hid (Ext.heap E5 B4.out)
  clear hB T4 R4 E5 B4
  go_wp2_with fail
  refine (take_100 _ _ (by have := row_new (w := w5.alloc (.cells #[.int .u8 0, .int .i64 0, .int .i64 0, .int .i64 0, .int .i64 0, .complex .f64 0 0, .int .i64 0, .int .i64 0] 34)) (t := 5) [1, 0, 0] (by decide); simpa using this)).mono ?_
  rintro e w6 ⟨rfl, hB⟩
  have E6 : Ext w5 w6 := Ext.of2 hB
  have T6 : Hid (Ext w w6) := Lib.hid (T5.out.trans E6)
  have R6 := Lib.hid (Ext.row E6 R5.out)
  have B6 := Lib.hid (Ext.heap E6 B5.out)
  clear hB T5 R5 E6 B5
  go_wp2_with fail
  refine (put_zero _).mono ?_
  rintro e w7 ⟨rfl, hB⟩
  have E7 : Ext w6 w7 := Ext.of1 hB
  have T7 : Hid (Ext w w7) := Lib.hid (T6.out.trans E7)
  have R7 := Lib.hid (Ext.row E7 R6.out)
  have B7 := Lib.hid (Ext.heap E7 B6.out)
  clear hB T6 R6 E7 B6
  go_wp2_with fail
  refine (rof_any _ _ _ _ _ _ _).mono ?_
  rintro e w8 ⟨rfl, hB⟩
  have E8 : Ext w7 w8 := hB
  have T8 : Hid (Ext w w8) := Lib.hid (T7.out.trans E8)
  have R8 := Lib.hid (Ext.row E8 R7.out)
  have B8 := Lib.hid (Ext.heap E8 B7.out)
  clear hB T7 R7 E8 B7
  go_wp2_with fail
  refine (putOk_ev _).mono ?_
  rintro e w9 ⟨g2, cap2, rfl, -, hg2, hc2, hm2, hr, hB⟩
  have T9 : Hid (Ext w w9) := Lib.hid (T8.out.trans hB)
  have R9 := Lib.hid (Ext.row hB R8.out)
  have S9 := Lib.hid hr
  have B9 := Lib.hid (Ext.heap hB B8.out)
  clear hB T8 R8 B8 hr
  go_wp2
  generalize w3.heap.size = b3 at *
  have k1 : ∀ x dst, Try.prog.underlying dst = some .string → (convert 30 dst (.slice (some ⟨g1, 0, none⟩) 8 cap1)).run Try.prog (mix w9 x) = .ok (.string ⟨#[2, 3, 0, 0, 0, 0, 1, 2]⟩) (mix w9 x) := fun x dst hd =>
    run_convert_bytes_arg (mix w9 x) 30 5 und30 und5 g1 0 8 cap1 [2, 3, 0, 0, 0, 0, 1, 2] rfl (fun i hi => (Ext.row (mix_below w9 x) R9.out).cell i hi) dst hd
  have k2 : ∀ x dst, Try.prog.underlying dst = some .string → (convert 30 dst (.slice (some ⟨g2, 0, none⟩) 20 cap2)).run Try.prog (mix w9 x) = .ok (.string ⟨#[1, 0, 0, 0, 0, 0, 1, 2, 0, 0, 3, 4, 255, 255, 255, 255, 0, 0, 0, 2]⟩) (mix w9 x) := fun x dst hd =>
    run_convert_bytes_arg (mix w9 x) 30 5 und30 und5 g2 0 20 cap2 [1, 0, 0, 0, 0, 0, 1, 2, 0, 0, 3, 4, 255, 255, 255, 255, 0, 0, 0, 2] rfl (fun i hi => (Ext.row (mix_below w9 x) S9.out).cell i hi) dst hd
  have u9 : Try.prog.underlying 9 = some .string := by kernel_rfl
  have k3 := fun x => k1 x 9 u9
  have k4 := fun x => k2 x 9 u9
  obtain ⟨a0, a1, a2, a3, a4, a5, a6, a7⟩ := row8 B9.out
  clear k1 k2 B9 R9 S9 u9
  refine wp_region_mix (by kernel_rfl) (by kernel_rfl) ?_
  repeat quiet_step ((first
      | (go_at_call 38; with_reducible exact Calls.mix_of (rmark_any _ _ _))
      | (go_at_call 18; with_reducible exact Calls.mix_of (rsame_mark _))
      | (go_at_call 40; with_reducible exact Calls.mix_of (size_1 _))
      | (go_at_call 40; with_reducible exact Calls.mix_of (size_2 _))
      | (go_at_call 40; with_reducible exact Calls.mix_of (size_0 0 (by decide) (by decide) _))))
  refine wpQuiet_nil ?_
  rintro _ ⟨x, rfl⟩
  go_wp2
  go_ret
  exact ⟨rfl, T9.out.trans (mix_below _ _)⟩

end Go.Proofs.Ytcbneobdelbhlaa
