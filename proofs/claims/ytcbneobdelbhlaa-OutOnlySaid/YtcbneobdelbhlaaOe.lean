/-
  Package out: Right.
-/
import Derived.Test.YtcbneobdelbhlaaOd
namespace Go.Proofs.Ytcbneobdelbhlaa
open Go.RowKit Go.Shelf

def EvD.less (a b : EvD) : Bool := lessE a.ts a.src a.seq b.ts b.src b.seq

def risingTo (l : List EvD) (j : Nat) : Bool := (List.range j).all fun i => decide (i = 0) || (l.getD (i - 1) EvD.zero).less (l.getD i EvD.zero)

theorem risingTo_succ (l : List EvD) (j : Nat) : risingTo l (j + 1) = (risingTo l j && (decide (j = 0) || (l.getD (j - 1) EvD.zero).less (l.getD j EvD.zero))) := by
  simp [risingTo, List.range_succ, List.all_append]

theorem risingTo_false {l : List EvD} {j n : Nat} (hj : j < n) (h : (decide (j = 0) || (l.getD (j - 1) EvD.zero).less (l.getD j EvD.zero)) = false) : risingTo l n = false := by
  rw [risingTo, List.all_eq_false]
  exact ⟨j, by simpa using hj, by rw [h]; simp⟩

theorem row5 {w : World} {b : Nat} {c0 c1 c2 c3 c4 : Value} {t : TypeId} (h : w.heap[b]? = some (.cells #[c0, c1, c2, c3, c4] t (0, 0))) :
    w.cell? ⟨b, 0, none⟩ = some c0 ∧ w.cell? ⟨b, 1, none⟩ = some c1 ∧ w.cell? ⟨b, 2, none⟩ = some c2 ∧ w.cell? ⟨b, 3, none⟩ = some c3 ∧ w.cell? ⟨b, 4, none⟩ = some c4 := by
  simp [World.cell?, h]

set_option maxHeartbeats 1000000 in
set_option maxRecDepth 100000 in
theorem oright_side (at_ code : Int) (h1 : 0 ≤ at_) (h2 : at_ < 4294967296) (h3 : 0 ≤ code) (w : World) :
    Calls Try.prog 30 #[.agg #[.int .u8 3, .slice none 0 0, .slice none 0 0, .int .i64 at_, .int .u8 code]] w fun e w' => e = .returned (.bool (decide (0 < code) && decide (code < 8))) ∧ Ext w w' := by
  have f1 : decide (at_ ≥ 0) = true := by simpa using h1
  have f2 : at_ / 4294967296 = 0 := by omega
  have f3 : (at_ / 4294967296 == 0) = true := by simpa using f2
  by_cases h4 : 0 < code <;> by_cases h5 : code < 8
  any_goals (exfalso; omega)
  all_goals
    have g4 : decide (0 < code) = _ := (by first | exact decide_eq_true h4 | exact decide_eq_false h4)
    have g5 : decide (code < 8) = _ := (by first | exact decide_eq_true h5 | exact decide_eq_false h5)
    rw [g4, g5]
    refine calls_of_wp_m Try.func30 rfl ?_
    simp only [Try.ntmps30, List.size_toArray, List.length_cons, List.length_nil, Nat.reduceAdd, Nat.reduceSub, Array.replicate_succ, Array.replicate_zero, List.push_toArray, List.append_toArray, List.nil_append, List.cons_append]
    go_wp2
    refine wp_scope_goto 0 rfl ?_
    go_wp2_with fail
    refine wp_region_mix (by kernel_rfl) (by kernel_rfl) ?_
    repeat (first | go_big_quiet_step (fail) | quiet_step (fail))
    refine wpQuiet_nil ?_
    rintro _ ⟨xx, rfl⟩
    have T : Hid (Ext w (mix (w.alloc (.cells #[.int .u8 3, .slice none 0 0, .slice none 0 0, .int .i64 at_, .int .u8 code] 64)) xx)) := Lib.hid (((Ext.refl w).alloc _).trans (mix_below _ _))
    have B : (mix (w.alloc (.cells #[.int .u8 3, .slice none 0 0, .slice none 0 0, .int .i64 at_, .int .u8 code] 64)) xx).heap[w.heap.size]? = some (.cells #[.int .u8 3, .slice none 0 0, .slice none 0 0, .int .i64 at_, .int .u8 code] 64 (0, 0)) := Ext.heap (mix_below _ _) (World.alloc_heap_new w _)
    generalize mix (w.alloc (.cells #[.int .u8 3, .slice none 0 0, .slice none 0 0, .int .i64 at_, .int .u8 code] 64)) xx = W at *
    obtain ⟨m0, m1, m2, m3, m4⟩ := row5 B
    go_wp2
    refine postM_ret0 (v := .bool _) (by simp [results, Try.results30, go_sem]) ⟨rfl, T.out⟩

set_option maxHeartbeats 1000000 in
set_option maxRecDepth 100000 in
theorem oright_none (kd : Int) (hk : kd = 0 ∨ kd = 1) (w : World) :
    Calls Try.prog 30 #[.agg #[.int .u8 kd, .slice none 0 0, .slice none 0 0, .int .i64 0, .int .u8 0]] w fun e w' => e = .returned (.bool false) ∧ Ext w w' := by
  have H := Lib.hid (fun w => otold_any kd w)
  have f0 : (kd == 3) = false := by simp; omega
  generalize decide (kd = 1 ∨ kd = 2) = D at *
  clear hk
  cases D
  all_goals
    refine calls_of_wp_m Try.func30 rfl ?_
    simp only [Try.ntmps30, List.size_toArray, List.length_cons, List.length_nil, Nat.reduceAdd, Nat.reduceSub, Array.replicate_succ, Array.replicate_zero, List.push_toArray, List.append_toArray, List.nil_append, List.cons_append]
    go_wp2
    refine wp_scope_goto 0 rfl ?_
    go_wp2_with fail
    refine wp_region_mix (by kernel_rfl) (by kernel_rfl) ?_
    repeat (first | go_big_quiet_step (fail) | quiet_step (fail))
    refine wpQuiet_nil ?_
    rintro _ ⟨xx, rfl⟩
    have T : Hid (Ext w (mix (w.alloc (.cells #[.int .u8 kd, .slice none 0 0, .slice none 0 0, .int .i64 0, .int .u8 0] 64)) xx)) := Lib.hid (((Ext.refl w).alloc _).trans (mix_below _ _))
    have B : (mix (w.alloc (.cells #[.int .u8 kd, .slice none 0 0, .slice none 0 0, .int .i64 0, .int .u8 0] 64)) xx).heap[w.heap.size]? = some (.cells #[.int .u8 kd, .slice none 0 0, .slice none 0 0, .int .i64 0, .int .u8 0] 64 (0, 0)) := Ext.heap (mix_below _ _) (World.alloc_heap_new w _)
    generalize mix (w.alloc (.cells #[.int .u8 kd, .slice none 0 0, .slice none 0 0, .int .i64 0, .int .u8 0] 64)) xx = W at *
    obtain ⟨m0, m1, m2, m3, m4⟩ := row5 B
    go_wp2_with (go_at_call 62; refine (H.out _).mono ?_; rintro e w1 ⟨rfl, rfl⟩)
    go_step3
    refine ⟨rfl, ?_⟩
    go_wp2
    rw [Exit.noGoto_ret]
    refine postM_ret0 (v := .bool false) (by simp [results, Try.results30, go_sem]) ⟨rfl, T.out⟩

def rightM (row : List Int) (evs : List EvD) : Bool := decide (0 ≤ minL row) && (decide (maxL row < 6) && (evs.all EvD.ok && risingTo evs evs.length))

set_option maxHeartbeats 4000000 in
set_option maxRecDepth 100000 in
theorem oright_match (kd : Int) (hk : kd = 1 ∨ kd = 2) (b cap b' cap' : Nat) (row : List Int) (evs : List EvD) (h1 : 1 ≤ row.length) (h2 : row.length ≤ 4) (h3 : evs.length = row.length)
    (hin : ∀ e ∈ evs, e.inside) (w : World) (hr : IntRow w b row) (he : EvRow w b' evs) :
    Calls Try.prog 30 #[.agg #[.int .u8 kd, .slice (some ⟨b, 0, none⟩) row.length cap, .slice (some ⟨b', 0, none⟩) row.length cap', .int .i64 0, .int .u8 0]] w fun e w' => e = .returned (.bool (rightM row evs)) ∧ Ext w w' := by
  have H62 := Lib.hid (fun w => otold_any kd w)
  have ht : decide (kd = 1 ∨ kd = 2) = true := by simpa using hk
  rw [ht] at H62
  have f0 : (kd == 3) = false := by simp; omega
  have H63 := Lib.hid (fun (w' : World) (hE : Ext w w') => smin_any b cap row w' (hE.introw hr) h1 (by omega))
  have H64 := Lib.hid (fun (w' : World) (hE : Ext w w') => smax_any b cap row w' (hE.introw hr) h1 (by omega))
  have H65 := Lib.hid (fun (w' : World) (hE : Ext w w') => h3 ▸ ocontains_any b' cap' evs (by omega) hin w' (hE.evrow he))
  have HH := Lib.hid (fun (w' : World) (hE : Ext w w') => hE.evrow he)
  have hR : rightM row evs = (decide (0 ≤ minL row) && (decide (maxL row < 6) && (evs.all EvD.ok && risingTo evs evs.length))) := rfl
  have HR := Lib.hid hR
  have H3 := Lib.hid h3
  clear hr he hin ht hk hR
  generalize minL row = mn at *
  generalize maxL row = mx at *
  generalize evs.all EvD.ok = al at *
  generalize rightM row evs = R at *
  generalize row.length = n at *
  clear h3
  have n1 : (1 : Int) ≤ (n : Int) := by omega
  have n4 : (n : Int) ≤ 4 := by omega
  have n0 : (n == 0) = false := by simp; omega
  have k1 : ((n : Int) == 0) = false := by simp; omega
  have k2 : decide ((4 : Int) < (n : Int)) = false := by simp; omega
  have k3 : decide (4 < n) = false := by simp; omega
  refine calls_of_wp_m Try.func30 rfl ?_
  simp only [Try.ntmps30, List.size_toArray, List.length_cons, List.length_nil, Nat.reduceAdd, Nat.reduceSub, Array.replicate_succ, Array.replicate_zero, List.push_toArray, List.append_toArray, List.nil_append, List.cons_append]
  go_wp2
  refine wp_scope_goto 0 rfl ?_
  go_wp2_with fail
  refine wp_region_mix (by kernel_rfl) (by kernel_rfl) ?_
  repeat (first | go_big_quiet_step (fail) | quiet_step (fail))
  refine wpQuiet_nil ?_
  rintro _ ⟨xx, rfl⟩
  have T : Hid (Ext w (mix (w.alloc (.cells #[.int .u8 kd, .slice (some ⟨b, 0, none⟩) n cap, .slice (some ⟨b', 0, none⟩) n cap', .int .i64 0, .int .u8 0] 64)) xx)) := Lib.hid (((Ext.refl w).alloc _).trans (mix_below _ _))
  have B : (mix (w.alloc (.cells #[.int .u8 kd, .slice (some ⟨b, 0, none⟩) n cap, .slice (some ⟨b', 0, none⟩) n cap', .int .i64 0, .int .u8 0] 64)) xx).heap[w.heap.size]? = some (.cells #[.int .u8 kd, .slice (some ⟨b, 0, none⟩) n cap, .slice (some ⟨b', 0, none⟩) n cap', .int .i64 0, .int .u8 0] 64 (0, 0)) := Ext.heap (mix_below _ _) (World.alloc_heap_new w _)
  generalize mix (w.alloc (.cells #[.int .u8 kd, .slice (some ⟨b, 0, none⟩) n cap, .slice (some ⟨b', 0, none⟩) n cap', .int .i64 0, .int .u8 0] 64)) xx = W at *
  obtain ⟨m0, m1, m2, m3, m4⟩ := row5 B
  by_cases c1 : mn < 0
  · have g1 : decide (0 ≤ mn) = false := by simp; omega
    rw [g1] at HR
    go_wp2_with (first | (go_at_call 62; refine (H62.out _).mono ?_; rintro e w1 ⟨rfl, rfl⟩) | (go_at_call 63; refine (H63.out _ T.out).mono ?_; rintro e w1 ⟨rfl, rfl⟩))
    go_step3
    refine ⟨rfl, ?_⟩
    go_wp2
    rw [Exit.noGoto_ret]
    refine postM_ret0 (v := .bool false) (by simp [results, Try.results30, go_sem]) ⟨ret_bool (by rw [HR.out]; rfl), T.out⟩
  · have g1 : decide (0 ≤ mn) = true := by simp; omega
    have c1' : decide (mn < 0) = false := by simp; omega
    rw [g1] at HR
    by_cases c2 : 6 ≤ mx
    · have g2 : decide (mx < 6) = false := by simp; omega
      rw [g2] at HR
      go_wp2_with (first | (go_at_call 62; refine (H62.out _).mono ?_; rintro e w1 ⟨rfl, rfl⟩) | (go_at_call 63; refine (H63.out _ T.out).mono ?_; rintro e w1 ⟨rfl, rfl⟩) | (go_at_call 64; refine (H64.out _ T.out).mono ?_; rintro e w1 ⟨rfl, rfl⟩))
      go_step3
      refine ⟨rfl, ?_⟩
      go_wp2
      rw [Exit.noGoto_ret]
      refine postM_ret0 (v := .bool false) (by simp [results, Try.results30, go_sem]) ⟨ret_bool (by rw [HR.out]; rfl), T.out⟩
    · have g2 : decide (mx < 6) = true := by simp; omega
      have c2' : decide (6 ≤ mx) = false := by simp; omega
      rw [g2] at HR
      go_wp2_with (first | (go_at_call 62; refine (H62.out _).mono ?_; rintro e w1 ⟨rfl, rfl⟩) | (go_at_call 63; refine (H63.out _ T.out).mono ?_; rintro e w1 ⟨rfl, rfl⟩) | (go_at_call 64; refine (H64.out _ T.out).mono ?_; rintro e w1 ⟨rfl, rfl⟩))
      refine (H65.out _ T.out).mono ?_
      rintro e w1 ⟨rfl, hE⟩
      have T1 := Lib.hid (T.out.trans hE)
      clear hE
      cases al
      · go_wp2
        go_step3
        refine ⟨rfl, ?_⟩
        go_wp2
        rw [Exit.noGoto_ret]
        refine postM_ret0 (v := .bool false) (by simp [results, Try.results30, go_sem]) ⟨ret_bool (by rw [HR.out]; rfl), T1.out⟩
      · go_wp2_with fail
        go_loopw [89] (fun v wr => ∃ j : Nat, j ≤ n ∧ v = .int .i64 j ∧ risingTo evs j = true ∧ Ext w wr) (fun v _ => n - (intOf v).toNat)
        case atStart => exact ⟨0, Nat.zero_le _, rfl, rfl, T1.out⟩
        case round =>
          obtain ⟨j, hj, rfl, hris, hE⟩ := hrel
          have HE := Lib.hid hE
          have HS := Lib.hid hris
          clear hris
          by_cases hlt : j < n
          · have hjl : j < evs.length := by rw [H3.out]; exact hlt
            rcases j with _ | i
            · clear hE
              go_wp2_with fail
              refine wp_region_mix (by kernel_rfl) (by kernel_rfl) ?_
              repeat (first | go_big_quiet_step (fail) | quiet_step (fail))
              refine wpQuiet_nil ?_
              rintro _ ⟨x, rfl⟩
              go_wp2
              refine ⟨⟨1, by omega, by go_num, rfl, HE.out.trans (mix_below _ _)⟩, by simp [intOf]; omega⟩
            · have hil : i < evs.length := by omega
              obtain ⟨c0, c1, c2, c3, c4⟩ := HH.out _ hE i hil
              obtain ⟨d0, d1, d2, d3, d4⟩ := HH.out _ hE (i + 1) hjl
              clear hE
              have hs : risingTo evs (i + 1 + 1) = lessE (evs.getD i EvD.zero).ts (evs.getD i EvD.zero).src (evs.getD i EvD.zero).seq (evs.getD (i + 1) EvD.zero).ts (evs.getD (i + 1) EvD.zero).src (evs.getD (i + 1) EvD.zero).seq := by
                rw [risingTo_succ, HS.out]
                simp [EvD.less]
              have hno : lessE (evs.getD i EvD.zero).ts (evs.getD i EvD.zero).src (evs.getD i EvD.zero).seq (evs.getD (i + 1) EvD.zero).ts (evs.getD (i + 1) EvD.zero).src (evs.getD (i + 1) EvD.zero).seq = false → risingTo evs evs.length = false := fun h =>
                risingTo_false hjl (by simpa [EvD.less] using h)
              have HS1 := Lib.hid hs
              have HN := Lib.hid hno
              have H66 := Lib.hid (fun w => eless_any (evs.getD i EvD.zero).ts (evs.getD i EvD.zero).src (evs.getD i EvD.zero).seq (evs.getD i EvD.zero).ek (evs.getD (i + 1) EvD.zero).ts (evs.getD (i + 1) EvD.zero).src (evs.getD (i + 1) EvD.zero).seq (evs.getD (i + 1) EvD.zero).ek (fb (evs.getD i EvD.zero).x) (fb (evs.getD i EvD.zero).y) (fb (evs.getD (i + 1) EvD.zero).x) (fb (evs.getD (i + 1) EvD.zero).y) w)
              clear hs hno
              generalize evs.getD i EvD.zero = e1 at *
              generalize evs.getD (i + 1) EvD.zero = e2 at *
              generalize lessE e1.ts e1.src e1.seq e2.ts e2.src e2.seq = L at *
              have y1 : IntKind.i64.wrap ((i : Int) + 1 - 1) = (i : Int) := by rw [Int.add_sub_cancel]; exact IntWalk.i64_in _ (by omega)
              have y2 : IntKind.i64.wrap (i : Int) = (i : Int) := IntWalk.i64_in _ (by omega)
              have y3 : (i : Int) < (n : Int) := by omega
              have y4 : (i : Int) + 1 < (n : Int) := by omega
              have y5 : (0 : Int) < (i : Int) + 1 := by omega
              have y6 : ((i : Int) + 1).toNat = i + 1 := by omega
              go_wp2_with fail
              refine wp_region_mix (by kernel_rfl) (by kernel_rfl) ?_
              repeat (first | go_big_quiet_step ((go_at_call 66; with_reducible exact Calls.mix_of (H66.out _))) | quiet_step ((go_at_call 66; with_reducible exact Calls.mix_of (H66.out _))))
              refine wpQuiet_nil ?_
              rintro _ ⟨x, rfl⟩
              cases L
              · go_wp2
                go_step3
                refine ⟨rfl, ?_⟩
                go_wp2
                rw [Exit.noGoto_ret]
                refine postM_ret0 (v := .bool false) (by simp [results, Try.results30, go_sem]) ⟨ret_bool (by rw [HR.out, HN.out trivial]; rfl), HE.out.trans (mix_below _ _)⟩
              · go_wp2
                refine ⟨⟨i + 1 + 1, by omega, by go_num, HS1.out, HE.out.trans (mix_below _ _)⟩, by simp [intOf]; omega⟩
          · have e : j = evs.length := by rw [H3.out]; omega
            rw [e] at HS
            go_wp2
            rw [jump_ret]
            refine postM_ret0 (v := .bool true) (by simp [results, Try.results30, go_sem]) ⟨ret_bool (by rw [HR.out, HS.out]; rfl), HE.out⟩

end Go.Proofs.Ytcbneobdelbhlaa
