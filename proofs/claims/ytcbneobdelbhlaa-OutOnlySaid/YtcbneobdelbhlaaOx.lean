/-
  The law's own wakes of package out.
-/
import Derived.Test.YtcbneobdelbhlaaOw
import Derived.Deep.RegionHeld3
namespace Go.Proofs.Ytcbneobdelbhlaa
open Go.RowKit Go.Shelf

theorem fb_m1 : fb (-1) = 13830554455654793216 := by kernel_rfl
theorem fb_2 : fb 2 = 4611686018427387904 := by kernel_rfl

theorem OX.val_m {y : OX} (h : y.d = m28) : y.val = .agg #[.int .u8 1, .slice (some ⟨y.b, 0, none⟩) 1 y.cap, .slice (some ⟨y.b', 0, none⟩) 1 y.cap', .int .i64 0, .int .u8 0] := by
  obtain ⟨d, b, c, b', c'⟩ := y
  simp only at h
  subst h
  rfl
theorem OX.cells_m {y : OX} (h : y.d = m28) : y.cells = [.int .u8 1, .slice (some ⟨y.b, 0, none⟩) 1 y.cap, .slice (some ⟨y.b', 0, none⟩) 1 y.cap', .int .i64 0, .int .u8 0] := by
  obtain ⟨d, b, c, b', c'⟩ := y
  simp only at h
  subst h
  rfl

set_option maxHeartbeats 1000000 in
theorem told54 (w : World) : Calls Try.prog 54 #[] w fun e w' => ∃ y : OX, e = .returned (.agg #[.int .u8 1, .slice (some ⟨y.b, 0, none⟩) 1 y.cap, .slice (some ⟨y.b', 0, none⟩) 1 y.cap', .int .i64 0, .int .u8 0]) ∧ y.d = m28 ∧ y.At w' ∧ Ext w w' := by
  go_enter Try.func54, Try.ntmps54
  go_wp2
  refine bodyPost_ret (v := .agg #[.int .u8 1, .slice (some ⟨w.heap.size + 1, 0, none⟩) 1 1, .slice (some ⟨w.heap.size + 1 + 1, 0, none⟩) 1 1, .int .i64 0, .int .u8 0]) (by simp [results, Try.results54, go_sem]) rfl ⟨⟨m28, w.heap.size + 1, 1, w.heap.size + 1 + 1, 1⟩, rfl, rfl, ?_, ?_⟩
  · have h1 : (((w.alloc (.cells #[.int .u8 1, .slice (some ⟨w.heap.size + 1, 0, none⟩) 1 1, .slice (some ⟨w.heap.size + 1 + 1, 0, none⟩) 1 1, .int .i64 0, .int .u8 0] 64)).alloc (.cells #[.int .i64 2] 3)).alloc (.cells #[.int .i64 9, .int .i64 1, .int .i64 0, .int .i64 3, .complex .f64 13830554455654793216 4611686018427387904] 32)).heap[w.heap.size + 1]? = some (.cells #[.int .i64 2] 3 (0, 0)) := heap_up (heap_top (by simp))
    have h2 : (((w.alloc (.cells #[.int .u8 1, .slice (some ⟨w.heap.size + 1, 0, none⟩) 1 1, .slice (some ⟨w.heap.size + 1 + 1, 0, none⟩) 1 1, .int .i64 0, .int .u8 0] 64)).alloc (.cells #[.int .i64 2] 3)).alloc (.cells #[.int .i64 9, .int .i64 1, .int .i64 0, .int .i64 3, .complex .f64 13830554455654793216 4611686018427387904] 32)).heap[w.heap.size + 1 + 1]? = some (.cells #[.int .i64 9, .int .i64 1, .int .i64 0, .int .i64 3, .complex .f64 13830554455654793216 4611686018427387904] 32 (0, 0)) := heap_top (by simp)
    generalize ((w.alloc _).alloc _).alloc _ = W at *
    obtain ⟨c0, c1, c2, c3, c4⟩ := row5 h2
    refine ⟨fit_m28, fun i hi => ?_, fun i hi => ?_, fun _ => ⟨⟨_, h1⟩, ⟨_, h2⟩⟩⟩
    · have e : i = 0 := by have : i < 1 := hi; omega
      subst e
      exact cell_of_one h1
    · have e : i = 0 := by have : i < 1 := hi; omega
      subst e
      exact ⟨c0, c1, c2, c3, by rw [show ((m28.evs.getD 0 EvD.zero).x) = -1 from rfl, show ((m28.evs.getD 0 EvD.zero).y) = 2 from rfl, fb_m1, fb_2]; exact c4⟩
  · exact (((Ext.refl w).alloc _).alloc _).alloc _

theorem outRow_two {w : World} {g : Nat} {x y : OX} (hx : x.At w) (hy : y.At w) (hg : w.heap[g]? = some (.cells (x.cells ++ y.cells).toArray 64 (0, 0))) : OutRow w g [x, y] := by
  refine ⟨fun z hz => ?_, fun i hi j u hj => ?_⟩
  · simp only [List.mem_cons, List.not_mem_nil, or_false] at hz
    rcases hz with rfl | rfl
    · exact hx
    · exact hy
  · have h5 : j < 5 := by have := (List.getElem?_eq_some_iff.1 hj).1; simpa [OX.cells] using this
    have hf := flat_get OX.cells 5 (fun _ => rfl) OX.zero [x, y] i hi j h5
    rw [cell_of_row _ _ _ _ _ _ hg]
    have e : [x, y].flatMap OX.cells = x.cells ++ y.cells := by simp
    rw [e] at hf
    rw [List.getElem?_toArray, hf, hj]

theorem put_two (g : Nat) (x y : OX) (w : World) (n : Nat) (hn : (x.d.bytes ++ y.d.bytes).length = n) (h0 : 0 < n) (hx : x.At w) (hy : y.At w) (hg : w.heap[g]? = some (.cells (x.cells ++ y.cells).toArray 64 (0, 0))) (hr : x.d.right = true) (hr' : y.d.right = true) :
    Calls Try.prog 31 #[.slice (some ⟨g, 0, none⟩) 2 2] w fun e w' => ∃ g' c', e = .returned (.tuple #[.slice (some ⟨g', 0, none⟩) n c', .int .i64 0]) ∧ Row w' g' 0 (x.d.bytes ++ y.d.bytes) ∧ n ≤ c' ∧ c' ≤ maxLen ∧ Ext w w' := by
  have hO : OutRow w g [x, y] := outRow_two hx hy hg
  refine (put_core g 2 [x, y] (by simp) w hO).mono ?_
  rintro e w' ⟨v, er, rfl, h1, _, hE⟩
  obtain ⟨rfl, hown⟩ := h1 (by simp [hr, hr'])
  have hb : bytesAll [x, y] = x.d.bytes ++ y.d.bytes := by simp [bytesAll]
  rw [hb, hn] at hown
  obtain ⟨g', c', rfl, _, _, h3, h4, h5⟩ := row_of_owns hown h0 (fun z hz => by
    rcases List.mem_append.1 hz with hz | hz
    · exact OutD.bytes_byte hx.fit z hz
    · exact OutD.bytes_byte hy.fit z hz)
  exact ⟨g', c', rfl, h5, h3, h4, hE⟩

theorem put_oneR (g : Nat) (x : OX) (w : World) (n : Nat) (zs : List Int) (hz : x.d.bytes = zs) (hn : zs.length = n) (h0 : 0 < n) (hA : x.At w) (hg : w.heap[g]? = some (.cells x.cells.toArray 64 (0, 0))) (hr : x.d.right = true) :
    Calls Try.prog 31 #[.slice (some ⟨g, 0, none⟩) 1 1] w fun e w' => ∃ g' c', e = .returned (.tuple #[.slice (some ⟨g', 0, none⟩) n c', .int .i64 0]) ∧ Row w' g' 0 zs ∧ Ext w w' := by
  refine (put_core g 1 [x] (by simp) w (outRow_one hA hg)).mono ?_
  rintro e w' ⟨v, er, rfl, h1, _, hE⟩
  obtain ⟨rfl, hown⟩ := h1 (by simp [hr])
  have hb : bytesAll [x] = zs := by simp [bytesAll, hz]
  rw [hb, hn] at hown
  obtain ⟨g', c', rfl, _, _, _, _, h5⟩ := row_of_owns hown h0 (fun z hz' => OutD.bytes_byte hA.fit z (by rw [hz]; exact hz'))
  exact ⟨g', c', rfl, h5, hE⟩

theorem take_two (g c : Nat) (w : World) (hr : Row w g 0 (m28.bytes ++ s28.bytes)) (h1 : 29 ≤ c) (h2 : c ≤ maxLen) :
    Calls Try.prog 29 #[.slice (some ⟨g, 0, none⟩) 29 c] w fun e w' => ∃ g' c' xs, e = .returned (.tuple #[.slice (some ⟨g', 0, none⟩) 2 c', .int .i64 0]) ∧ xs.map OX.d = [m28, s28] ∧ OutRow w' g' xs ∧ Ext w w' := by
  refine (otake_any _ g 0 29 c _ w len_ms28 (by decide) (fun _ => rfl) hr h1 h2).mono ?_
  rintro e w' ⟨v, xs, rfl, h3, _, hE⟩
  rw [take_ms28] at h3 ⊢
  obtain ⟨hd, hown, hA⟩ := h3 rfl
  have hl : xs.length = 2 := by have := congrArg List.length hd; simpa using this
  rw [hl] at hown
  obtain ⟨g', c', rfl, _, _⟩ := hown.form (by decide)
  exact ⟨g', c', xs, rfl, hd, outRow_of_own hown hl hA, hE⟩

theorem take_seven (g : Nat) (w : World) (hr : Row w g 0 [7]) : Calls Try.prog 29 #[.slice (some ⟨g, 0, none⟩) 1 1] w fun e w' => e = .returned (.tuple #[.slice none 0 0, .int .i64 11]) ∧ Ext w w' := by
  refine (otake_any _ g 0 1 1 _ w rfl (by decide) (fun _ => rfl) hr (by decide) (by decide)).mono ?_
  rintro e w' ⟨v, xs, rfl, _, h3, hE⟩
  rw [take_728] at h3 ⊢
  rw [h3 (by decide)]
  exact ⟨rfl, hE⟩

theorem take_cut (g c : Nat) (w : World) (hr : Row w g 0 (m28.bytes ++ s28.bytes)) (h1 : 29 ≤ c) (h2 : c ≤ maxLen) :
    Calls Try.prog 29 #[.slice (some ⟨g, 0, none⟩) 28 c] w fun e w' => e = .returned (.tuple #[.slice none 0 0, .int .i64 50]) ∧ Ext w w' := by
  refine (otake_any _ g 0 28 c _ w (by rw [List.length_take, len_ms28]; rfl) (by decide) (fun _ => rfl) (row_take hr 28) (by omega) h2).mono ?_
  rintro e w' ⟨v, xs, rfl, _, h3, hE⟩
  rw [take_cut28] at h3 ⊢
  rw [h3 (by decide)]
  exact ⟨rfl, hE⟩

set_option maxHeartbeats 8000000 in
set_option maxRecDepth 100000 in
theorem wakes28 : Wakes28 := by
  intro w
  obtain ⟨sx, hsx⟩ : ∃ x : OX, x = ⟨s28, 0, 0, 0, 0⟩ := ⟨_, rfl⟩
  have HSC : Hid (sx.cells = [.int .u8 3, .slice none 0 0, .slice none 0 0, .int .i64 258, .int .u8 4] ∧ sx.val = .agg #[.int .u8 3, .slice none 0 0, .slice none 0 0, .int .i64 258, .int .u8 4] ∧ sx.d = s28) := Lib.hid (by subst hsx; exact ⟨rfl, rfl, rfl⟩)
  have HSA : Hid (∀ W, sx.At W) := Lib.hid fun W => by subst hsx; exact ⟨fit_s28, fun i hi => by simp [s28] at hi, fun i hi => by simp [s28] at hi, fun h => absurd rfl h⟩
  have HSR : Hid (sx.d.right = true) := Lib.hid (by rw [HSC.out.2.2]; exact right_s28)
  clear hsx
  go_enter Try.func28, Try.ntmps28
  go_wp2_with fail
  refine (put_oneR _ sx _ 6 [3, 0, 0, 1, 2, 4] (by rw [HSC.out.2.2, bytes_s28]) rfl (by decide) (HSA.out _) (by rw [HSC.out.1]; exact heap_top (by simp)) HSR.out).mono ?_
  rintro e w1 ⟨g1, d1, rfl, hR, hE⟩
  have S1 := Lib.hid (Ext.heap hE (heap_up (World.alloc_heap_new w _)))
  have R1 := Lib.hid hR
  have T1 := Lib.hid (Ext.of2 hE)
  clear hR hE
  go_wp2_with fail
  refine (told54 _).mono ?_
  rintro e w2 ⟨y, rfl, hy, hyA, hE⟩
  have S2 := Lib.hid (Ext.heap hE S1.out)
  have R2 := Lib.hid (hE.row R1.out)
  have T2 := Lib.hid (T1.out.trans hE)
  have YC := Lib.hid (And.intro (OX.cells_m hy) (And.intro (OX.val_m hy) hy))
  have YA2 := Lib.hid hyA
  have YR : Hid (y.d.right = true) := Lib.hid (by rw [hy]; exact right_m28)
  clear hy hyA hE S1 R1
  obtain ⟨s0, s1, s2, s3, s4⟩ := row5 S2.out
  have hlt : w.heap.size < w2.heap.size := heap_lt S2.out
  have hne : ¬ w.heap.size = w2.heap.size := by omega
  go_wp2_with fail
  refine (put_two _ y sx _ 29 (by rw [YC.out.2.2, HSC.out.2.2]; exact len_ms28) (by decide) (YA2.out.ext (((Ext.refl w2).alloc _).alloc _)) (HSA.out _) (by rw [YC.out.1, HSC.out.1]; exact heap_top (by simp)) YR.out HSR.out).mono ?_
  rintro e w3 ⟨g3, d3, rfl, hR, h29, hmx, hE⟩
  have S3 := Lib.hid (Ext.heap (Ext.of2 hE) S2.out)
  have M3 := Lib.hid (Ext.heap hE (heap_up (World.alloc_heap_new w2 _)))
  have R3 := Lib.hid (Ext.row (Ext.of2 hE) R2.out)
  have CR3 : Hid (Row w3 g3 0 (m28.bytes ++ s28.bytes)) := Lib.hid (by rw [YC.out.2.2, HSC.out.2.2] at hR; exact hR)
  have CC := Lib.hid (And.intro h29 hmx)
  have T3 := Lib.hid (T2.out.trans (Ext.of2 hE))
  have YA3 := Lib.hid (YA2.out.ext (Ext.of2 hE))
  have p29 : (29 : Int) ≤ (d3 : Int) := by omega
  have p28 : (28 : Int) ≤ (d3 : Int) := by omega
  clear hR h29 hmx hE s0 s1 s2 s3 s4 S2 R2
  go_wp2_with fail
  refine (take_two _ _ _ CR3.out CC.out.1 CC.out.2).mono ?_
  rintro e w4 ⟨g4, d4, xs, rfl, hd, hO, hE⟩
  have S4 := Lib.hid (hE.heap S3.out)
  have M4 := Lib.hid (hE.heap M3.out)
  have R4 := Lib.hid (hE.row R3.out)
  have CR4 := Lib.hid (hE.row CR3.out)
  have T4 := Lib.hid (T3.out.trans hE)
  have YA4 := Lib.hid (YA3.out.ext hE)
  have LO4 := Lib.hid (And.intro hd hO)
  clear hd hO hE S3 M3 R3 CR3
  go_wp2_with fail
  refine (put_one_no _ ⟨z28, 0, 0, 0, 0⟩ _ ⟨fit_z28, fun i hi => by simp [z28] at hi, fun i hi => by simp [z28] at hi, fun h => absurd rfl h⟩ (World.alloc_heap_new _ _) right_z28).mono ?_
  rintro e w5 ⟨rfl, hE⟩
  have E5 := Lib.hid (Ext.of1 hE)
  clear hE
  go_wp2_with fail
  refine (take_seven _ _ (row_new (w := w5) (t := 5) [7] (by decide))).mono ?_
  rintro e w6 ⟨rfl, hE⟩
  have E6 := Lib.hid (E5.out.trans (Ext.of1 hE))
  clear hE
  go_wp2_with fail
  refine (take_cut _ _ _ (Ext.row E6.out CR4.out) CC.out.1 CC.out.2).mono ?_
  rintro e w7 ⟨rfl, hE⟩
  have E7 := Lib.hid (E6.out.trans hE)
  have T7 := Lib.hid (T4.out.trans E7.out)
  clear hE
  have SC7 := Lib.hid (E7.out.heap S4.out)
  have MC7 := Lib.hid (E7.out.heap M4.out)
  have R7 := Lib.hid (E7.out.row R4.out)
  have YA7 := Lib.hid (YA4.out.ext E7.out)
  have LO7 := Lib.hid (And.intro LO4.out.1 (LO4.out.2.ext E7.out))
  clear S4 M4 R4 CR4 YA4 LO4 E5 E6 E7 T1 T2 T3 T4
  obtain ⟨S, hS⟩ : ∃ S, S = strOfNums [3, 0, 0, 1, 2, 4] := ⟨_, rfl⟩
  have K7 : Hid (∀ W, Ext w7 W → (Ext w7 W ∧ (convert 30 9 (.slice (some ⟨g1, 0, none⟩) 6 d1)).run Try.prog W = .ok (.string S) W ∧
      W.cell? ⟨w.heap.size, 0, none⟩ = some (.int .u8 3) ∧ W.cell? ⟨w.heap.size, 1, none⟩ = some (.slice none 0 0) ∧ W.cell? ⟨w.heap.size, 2, none⟩ = some (.slice none 0 0) ∧ W.cell? ⟨w.heap.size, 3, none⟩ = some (.int .i64 258) ∧ W.cell? ⟨w.heap.size, 4, none⟩ = some (.int .u8 4) ∧
      W.cell? ⟨w2.heap.size, 0, none⟩ = some (.int .u8 1) ∧ W.cell? ⟨w2.heap.size, 1, none⟩ = some (.slice (some ⟨y.b, 0, none⟩) 1 y.cap) ∧ W.cell? ⟨w2.heap.size, 2, none⟩ = some (.slice (some ⟨y.b', 0, none⟩) 1 y.cap') ∧ W.cell? ⟨w2.heap.size, 3, none⟩ = some (.int .i64 0) ∧ W.cell? ⟨w2.heap.size, 4, none⟩ = some (.int .u8 0))) := Lib.hid fun W hW => by
    obtain ⟨a0, a1, a2, a3, a4⟩ := row5 (hW.heap SC7.out)
    obtain ⟨b0, b1, b2, b3, b4⟩ := row5 (hW.heap MC7.out)
    refine ⟨hW, ?_, a0, a1, a2, a3, a4, b0, b1, b2, b3, b4⟩
    rw [hS]
    exact Conv.of_row (hW.row R7.out) rfl
  have hcv : (convert 30 9 (.slice (some ⟨w7.heap.size, 0, none⟩) 6 6)).run Try.prog (w7.alloc (.cells #[.int .u8 3, .int .u8 0, .int .u8 0, .int .u8 1, .int .u8 2, .int .u8 4] 5)).drew = .ok (.string S) (w7.alloc (.cells #[.int .u8 3, .int .u8 0, .int .u8 0, .int .u8 1, .int .u8 2, .int .u8 4] 5)).drew := by
    rw [hS]
    exact Conv.of_row (Ext.row (Ext.refl (w7.alloc (.cells #[.int .u8 3, .int .u8 0, .int .u8 0, .int .u8 1, .int .u8 2, .int .u8 4] 5))).drew (row_new (w := w7) (t := 5) [3, 0, 0, 1, 2, 4] (by decide))) rfl
  clear hS
  have HXL : Hid (xs.length = 2) := Lib.hid (by have := congrArg List.length LO7.out.1; simpa using this)
  have H55 : Hid (∀ (W : World) (g : Nat), Ext w7 W → W.heap[g]? = some (.cells #[.int .u8 1, .slice (some ⟨y.b, 0, none⟩) 1 y.cap, .slice (some ⟨y.b', 0, none⟩) 1 y.cap', .int .i64 0, .int .u8 0, .int .u8 3, .slice none 0 0, .slice none 0 0, .int .i64 258, .int .u8 4] 64 (0, 0)) →
      Calls Try.prog 55 #[.slice (some ⟨g4, 0, none⟩) 2 d4, .slice (some ⟨g, 0, none⟩) 2 2] W fun e w' => e = .returned (.bool true) ∧ Ext W w') := Lib.hid fun W g hW hg =>
    routs_eq g4 d4 g 2 2 xs [y, sx] W (by decide) HXL.out rfl (by rw [LO7.out.1]; simp [YC.out.2.2, HSC.out.2.2]) (LO7.out.2.ext hW) (outRow_two (YA7.out.ext hW) (HSA.out _) (by rw [YC.out.1, HSC.out.1]; exact hg))
  have H30m : Hid (∀ W : World, Ext w7 W → Calls Try.prog 30 #[.agg #[.int .u8 1, .slice (some ⟨y.b, 0, none⟩) 1 y.cap, .slice (some ⟨y.b', 0, none⟩) 1 y.cap', .int .i64 0, .int .u8 0]] W fun e w' => e = .returned (.bool true) ∧ Ext W w') := Lib.hid fun W hW => by
    have := oright_any y W (YA7.out.ext hW)
    rwa [YC.out.2.1, YR.out] at this
  have H30k : Hid (∀ W : World, Calls Try.prog 30 #[.agg #[.int .u8 1, .slice none 0 0, .slice none 0 0, .int .i64 0, .int .u8 0]] W fun e w' => e = .returned (.bool false) ∧ Ext W w') := Lib.hid fun W => by
    have := oright_any ⟨k28, 0, 0, 0, 0⟩ W ⟨fit_k28, fun i hi => by simp [k28] at hi, fun i hi => by simp [k28] at hi, fun h => absurd rfl h⟩
    rwa [right_k28] at this
  have H56m : Hid (∀ W : World, Ext w7 W → Calls Try.prog 56 #[.agg #[.int .u8 1, .slice (some ⟨y.b, 0, none⟩) 1 y.cap, .slice (some ⟨y.b', 0, none⟩) 1 y.cap', .int .i64 0, .int .u8 0]] W fun e w' => e = .returned (.int .i64 23) ∧ Ext W w') := Lib.hid fun W hW => by
    have := osize_any y W (YA7.out.ext hW)
    rw [YC.out.2.1, YC.out.2.2, right_m28] at this
    exact this
  have H56s : Hid (∀ W : World, Calls Try.prog 56 #[.agg #[.int .u8 3, .slice none 0 0, .slice none 0 0, .int .i64 258, .int .u8 4]] W fun e w' => e = .returned (.int .i64 6) ∧ Ext W w') := Lib.hid fun W => by
    have := osize_any sx W (HSA.out W)
    rw [HSC.out.2.1, HSC.out.2.2, right_s28] at this
    exact this
  have H56z : Hid (∀ W : World, Calls Try.prog 56 #[.agg #[.int .u8 0, .slice none 0 0, .slice none 0 0, .int .i64 0, .int .u8 0]] W fun e w' => e = .returned (.int .i64 0) ∧ Ext W w') := Lib.hid fun W => by
    have := osize_any ⟨z28, 0, 0, 0, 0⟩ W ⟨fit_z28, fun i hi => by simp [z28] at hi, fun i hi => by simp [z28] at hi, fun h => absurd rfl h⟩
    rw [right_z28] at this
    exact this
  have H58 : Hid (∀ W : World, Ext w7 W → Calls Try.prog 58 #[.agg #[.int .u8 1, .slice (some ⟨y.b, 0, none⟩) 1 y.cap, .slice (some ⟨y.b', 0, none⟩) 1 y.cap', .int .i64 0, .int .u8 0]] W fun e w' =>
      ∃ z : OX, e = .returned (.agg #[.int .u8 1, .slice (some ⟨z.b, 0, none⟩) 1 z.cap, .slice (some ⟨z.b', 0, none⟩) 1 z.cap', .int .i64 0, .int .u8 0]) ∧ (z.d = m28 ∧ z.At w') ∧ Ext W w') := Lib.hid fun W hW => by
    have := own_any y W (YA7.out.ext hW) (by rw [YC.out.2.2]; decide)
    rw [YC.out.2.1] at this
    refine this.mono ?_
    rintro e w' ⟨z, rfl, h1, h2, h3⟩
    rw [YC.out.2.2] at h1
    exact ⟨z, by rw [OX.val_m h1], ⟨h1, h2⟩, h3⟩
  have H57 : Hid (∀ (W : World) (z : OX), Ext w7 W → (z.d = m28 ∧ z.At W) → Calls Try.prog 57 #[.agg #[.int .u8 1, .slice (some ⟨z.b, 0, none⟩) 1 z.cap, .slice (some ⟨z.b', 0, none⟩) 1 z.cap', .int .i64 0, .int .u8 0], .agg #[.int .u8 1, .slice (some ⟨y.b, 0, none⟩) 1 y.cap, .slice (some ⟨y.b', 0, none⟩) 1 y.cap', .int .i64 0, .int .u8 0]] W fun e w' => e = .returned (.bool true) ∧ Ext W w') := Lib.hid fun W z hW hz => by
    have := sout_eq z y (by rw [hz.1, YC.out.2.2]) W hz.2 (YA7.out.ext hW)
    rwa [YC.out.2.1, OX.val_m hz.1] at this
  have H57n : Hid (∀ W : World, Calls Try.prog 57 #[.agg #[.int .u8 1, .slice (some ⟨y.b, 0, none⟩) 1 y.cap, .slice (some ⟨y.b', 0, none⟩) 1 y.cap', .int .i64 0, .int .u8 0], .agg #[.int .u8 3, .slice none 0 0, .slice none 0 0, .int .i64 258, .int .u8 4]] W fun e w' => e = .returned (.bool false) ∧ Ext W w') := Lib.hid fun W => by
    have := sout_ne y sx (by rw [YC.out.2.2, HSC.out.2.2]; decide) W
    rwa [YC.out.2.1, HSC.out.2.1] at this
  clear HXL YA7 LO7 YC YR HSC HSA HSR R7 SC7 MC7
  go_wp2_with fail
  simp only [List.append_eq, List.cons_append, List.nil_append]
  refine wp_region_noPanic ?_
  go_region_held (fun W => Ext w7 W ∧ (convert 30 9 (.slice (some ⟨g1, 0, none⟩) 6 d1)).run Try.prog W = .ok (.string S) W ∧
      W.cell? ⟨w.heap.size, 0, none⟩ = some (.int .u8 3) ∧ W.cell? ⟨w.heap.size, 1, none⟩ = some (.slice none 0 0) ∧ W.cell? ⟨w.heap.size, 2, none⟩ = some (.slice none 0 0) ∧ W.cell? ⟨w.heap.size, 3, none⟩ = some (.int .i64 258) ∧ W.cell? ⟨w.heap.size, 4, none⟩ = some (.int .u8 4) ∧
      W.cell? ⟨w2.heap.size, 0, none⟩ = some (.int .u8 1) ∧ W.cell? ⟨w2.heap.size, 1, none⟩ = some (.slice (some ⟨y.b, 0, none⟩) 1 y.cap) ∧ W.cell? ⟨w2.heap.size, 2, none⟩ = some (.slice (some ⟨y.b', 0, none⟩) 1 y.cap') ∧ W.cell? ⟨w2.heap.size, 3, none⟩ = some (.int .i64 0) ∧ W.cell? ⟨w2.heap.size, 4, none⟩ = some (.int .u8 0))
    (first | exact K7.out _ (by assumption : Ext w7 _) | exact K7.out _ (Ext.refl w7).drew | exact K7.out _ ((Ext.refl w7).alloc _).drew | exact K7.out _ (((Ext.refl w7).alloc _).alloc _).drew | exact K7.out _ ((‹Ext w7 _ ∧ _›).1.alloc _) | exact K7.out _ (‹Ext w7 _ ∧ _›).1 | fail)
    (first
      | (go_at_call 55; refine (H55.out _ _ (‹Ext w7 _ ∧ _›).1 (heap_dr (heap_top (by simp)))).mono ?_; rintro e w8 ⟨rfl, hE⟩; have N8 : Ext w7 w8 := (‹Ext w7 _ ∧ _›).1.trans hE; clear hE)
      | (go_at_call_of 30 (Value.slice none 0 0); refine (H30k.out _).mono ?_; rintro e w8 ⟨rfl, hE⟩; have N8 : Ext w7 w8 := (‹Ext w7 _ ∧ _›).1.trans hE; clear hE)
      | (go_at_call 30; refine (H30m.out _ (‹Ext w7 _ ∧ _›).1).mono ?_; rintro e w8 ⟨rfl, hE⟩; have N8 : Ext w7 w8 := (‹Ext w7 _ ∧ _›).1.trans hE; clear hE)
      | (go_at_call_of 56 (Value.int .i64 258); refine (H56s.out _).mono ?_; rintro e w8 ⟨rfl, hE⟩; have N8 : Ext w7 w8 := (‹Ext w7 _ ∧ _›).1.trans hE; clear hE)
      | (go_at_call_of 56 (Value.slice none 0 0); refine (H56z.out _).mono ?_; rintro e w8 ⟨rfl, hE⟩; have N8 : Ext w7 w8 := (‹Ext w7 _ ∧ _›).1.trans hE; clear hE)
      | (go_at_call 56; refine (H56m.out _ (‹Ext w7 _ ∧ _›).1).mono ?_; rintro e w8 ⟨rfl, hE⟩; have N8 : Ext w7 w8 := (‹Ext w7 _ ∧ _›).1.trans hE; clear hE)
      | (go_at_call 58; refine (H58.out _ (‹Ext w7 _ ∧ _›).1).mono ?_; rintro e w8 ⟨z, rfl, hz, hE⟩; have HZ := Lib.hid hz; have N8 : Ext w7 w8 := (‹Ext w7 _ ∧ _›).1.trans hE; clear hE hz)
      | (go_at_call_of 57 (Value.int .i64 258); refine (H57n.out _).mono ?_; rintro e w8 ⟨rfl, hE⟩; have N8 : Ext w7 w8 := (‹Ext w7 _ ∧ _›).1.trans hE; clear hE)
      | (go_at_call 57; refine (H57.out _ _ (‹Ext w7 _ ∧ _›).1 HZ.out).mono ?_; rintro e w8 ⟨rfl, hE⟩; have N8 : Ext w7 w8 := (‹Ext w7 _ ∧ _›).1.trans hE; clear hE)
      | fail)
  refine NoPanic.normal ?_
  go_wp2
  go_ret
  exact ⟨rfl, T7.out.trans (by assumption : Ext w7 _)⟩

end Go.Proofs.Ytcbneobdelbhlaa
