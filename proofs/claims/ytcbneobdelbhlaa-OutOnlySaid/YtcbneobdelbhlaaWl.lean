/-
  Walks of package wire: Take's long way, kind 1, Make agrees.
-/
import Derived.Test.YtcbneobdelbhlaaWk
import Derived.StillTailTactics
namespace Go.Proofs.Ytcbneobdelbhlaa
open Go.RowKit Go.Shelf

set_option maxHeartbeats 4000000 in
set_option maxRecDepth 100000 in
theorem wtake_one (b off n cap len : Nat) (kd : Int) (ws : List Nat) (zs : List Int) (w : World) (hn : n = zs.length + 1) (hlen : ws.length = len) (hsum : psum ws len = zs.length) (h1 : 2 ≤ len) (h6 : len ≤ 6) (h8 : ∀ k ∈ ws, 1 ≤ k ∧ k ≤ 7)
    (hkd : kd = 1) (hl6 : len = 6) (t0 t1 t2 t3 x0 y0 : Int) (cr ci : Nat) (hnums : numsOf zs ws len = [t0, t1, t2, t3, x0, y0])
    (hcap : n ≤ cap) (hmax : cap ≤ maxLen) (hk : w.cell? ⟨b, off, none⟩ = some (.int .u8 kd)) (hrow : Row w b (off + 1) zs)
    (H40 : ∀ w, Calls Try.prog 40 #[.int .u8 kd] w fun e w' => e = .returned (.int .i64 n) ∧ Below w.heap.size w w')
    (H41 : ∀ w, Calls Try.prog 41 #[.int .u8 kd] w fun e w' => e = .returned (.slice (some ⟨w.heap.size, 0, none⟩) len len) ∧ w.alloc (.cells (ws.map fun (k : Nat) => Value.int .i64 (k : Int)).toArray 3) = w')
    (HM : ∀ w, Calls Try.prog 10 #[.int .i64 (IntKind.i32.wrap x0), .int .i64 (IntKind.i32.wrap y0)] w fun e w' => e = .returned (.tuple #[.complex .f64 cr ci, .int .i64 0]) ∧ w = w')
    (ok : Bool) (H43 : ∀ w, Calls Try.prog 43 #[.agg #[.int .u8 1, .int .i64 t0, .int .i64 t1, .int .i64 t2, .int .i64 t3, .complex .f64 cr ci, .int .i64 0, .int .i64 0]] w fun e w' => e = .returned (.bool ok) ∧ Below w.heap.size w w') :
    Calls Try.prog 15 #[.slice (some ⟨b, off, none⟩) n cap] w fun e w' => e = .returned (if ok then .tuple #[.agg #[.int .u8 1, .int .i64 t0, .int .i64 t1, .int .i64 t2, .int .i64 t3, .complex .f64 cr ci, .int .i64 0, .int .i64 0], .int .i64 0] else .tuple #[zrec, .int .i64 11]) ∧ Below w.heap.size w w' := by
  have HKd := Lib.hid hkd
  have HNm := Lib.hid hnums
  have HL6 := Lib.hid hl6
  clear hkd hnums hl6
  have KM := Lib.hid HM
  have K43 := Lib.hid H43
  clear HM H43
  have K40 := Lib.hid H40
  have K41 := Lib.hid H41
  have KR := Lib.hid hrow
  have K8 := Lib.hid h8
  have KN := Lib.hid (And.intro hn (And.intro hsum hlen))
  have n0 : (0 : Int) < (n : Int) := by omega
  have n1 : 0 < n := by omega
  have nz : ¬ n = 0 := by omega
  have cap1 : ¬ cap = 1 := by
    rintro rfl
    have : zs.length = 0 := by omega
    have h2 := h8 (ws.getD 0 0) (by rw [List.getD_eq_getElem?_getD, List.getElem?_eq_getElem (by omega)]; exact List.getElem_mem _)
    have h3 := psum_le ws 1
    rw [hlen] at h3
    rw [psum_succ (by omega)] at h3
    simp only [psum, List.take_zero, List.sum_nil, Nat.zero_add] at h3 hsum
    omega
  clear H40 H41 hrow h8 hn hsum hlen
  have hb : b < w.heap.size := by obtain ⟨o, ho, _⟩ := cells_of_cell hk; exact heap_lt ho
  refine calls_of_wp_m Try.func15 rfl ?_
  simp only [Try.ntmps15, List.size_toArray, List.length_cons, List.length_nil, Nat.reduceAdd, Nat.reduceSub, Array.replicate_succ, Array.replicate_zero, List.push_toArray, List.append_toArray, List.nil_append, List.cons_append]
  go_wp2
  refine wp_scope_goto 0 rfl ?_
  go_wp2_with (go_at_call 40; refine (K40.out _).mono ?_; rintro e w1 ⟨rfl, hB⟩; first | (have hc := cell_below hB (cell_later_alloc hk _); have T := bt1 hB; have Bx := boxOf hB; clear hB) | (have hc := cell_below hB (by assumption); have T := bt2 hB (by assumption); have Bx := boxOn hB (by assumption); clear hB))
  obtain ⟨b0, -⟩ := row8 Bx.out
  have bf := row_free Bx.out
  have cap0 : (1 : Int) ≤ (cap : Int) := by omega
  have n2 : (1 : Int) ≤ (n : Int) := by omega
  have n3 : (n : Int) ≤ (cap : Int) := by omega
  have n4 : 1 ≤ n := by omega
  go_region
  go_wp2_with (go_at_call 41; refine (K41.out _).mono ?_; rintro e w' ⟨rfl, rfl⟩)
  have X0 : Below w.heap.size w (((w1.setCell ⟨w.heap.size, 0, none⟩ (.int .u8 kd)).alloc (.cells (ws.map fun (k : Nat) => Value.int .i64 (k : Int)).toArray 3)).drew) :=
    ((T.out.setCell (p := ⟨w.heap.size, 0, none⟩) (Nat.le_refl _) _).alloc (by have := T.out.size; simp [World.setCell]; omega) _).drew
  have X1 : (((w1.setCell ⟨w.heap.size, 0, none⟩ (.int .u8 kd)).alloc (.cells (ws.map fun (k : Nat) => Value.int .i64 (k : Int)).toArray 3)).drew).heap[w1.heap.size]? = some (.cells (ws.map fun (k : Nat) => Value.int .i64 (k : Int)).toArray 3 (0, 0)) :=
    heap_top (W := w1.setCell ⟨w.heap.size, 0, none⟩ (.int .u8 kd)) (by simp [World.setCell])
  have X2 : (((w1.setCell ⟨w.heap.size, 0, none⟩ (.int .u8 kd)).alloc (.cells (ws.map fun (k : Nat) => Value.int .i64 (k : Int)).toArray 3)).drew).heap[w.heap.size]? = some (.cells #[.int .u8 kd, .int .i64 0, .int .i64 0, .int .i64 0, .int .i64 0, .complex .f64 0 0, .int .i64 0, .int .i64 0] 34 (0, 0)) := by
    show ((w1.setCell ⟨w.heap.size, 0, none⟩ (.int .u8 kd)).alloc _).heap[w.heap.size]? = _
    have hx := Bx.out
    rw [Below.heap_alloc _ _ _ (by have := heap_lt hx; simpa [World.setCell] using this)]
    simp [World.setCell, Array.getElem?_modify, hx]
  have X3 : w.heap.size < w1.heap.size := heap_lt Bx.out
  generalize hWW : ((w1.setCell ⟨w.heap.size, 0, none⟩ (.int .u8 kd)).alloc (.cells (ws.map fun (k : Nat) => Value.int .i64 (k : Int)).toArray 3)).drew = W0 at *
  generalize w1.heap.size = bw at *
  clear hWW b0 bf Bx T hc
  have XR : Row W0 b (off + 1) zs := row_keep KR.out X0 hb
  have Y := Lib.hid (And.intro X0 (And.intro X1 (And.intro X2 (And.intro X3 XR))))
  clear X0 X1 X2 X3 XR
  obtain ⟨i0, hi, hz0, hz1, hz2⟩ := info_parts info3
  go_loopw [0, 4, 42] (fun t0 v i W => ∃ (j q r s : Nat) (A : Option Addr), j ≤ len ∧ i = .int .i64 j ∧ t0 = .slice A q r ∧ s = psum ws j ∧ q + s = zs.length ∧ q ≤ r ∧ r ≤ maxLen ∧ (0 < q → A = some ⟨b, off + 1 + s, none⟩) ∧
      W.ownsRow W0.heap.size 3 1 v j ((numsOf zs ws j).map (Value.int .i64)) ∧ Below W0.heap.size W0 W) (fun _ _ i _ => len - (intOf i).toNat)
  case atStart => exact ⟨0, n - 1, cap - 1, 0, _, Nat.zero_le _, rfl, rfl, rfl, by have := KN.out.1; omega, by omega, by omega, fun _ => rfl, World.ownsRow_nil _ _ _ _, Below.refl _ _⟩
  case round =>
    obtain ⟨j, q, r, s, A, hj, rfl, rfl, hs, hq, hqr, hr, hA, hown, hbel⟩ := hrel
    by_cases hlt : j < len
    · have hjw : j < ws.length := by rw [KN.out.2.2]; exact hlt
      obtain ⟨k, hk⟩ : ∃ k, k = ws.getD j 0 := ⟨_, rfl⟩
      have hk8 : 1 ≤ k ∧ k ≤ 7 := by
        rw [hk, List.getD_eq_getElem?_getD, List.getElem?_eq_getElem hjw]
        exact K8.out _ (List.getElem_mem hjw)
      obtain ⟨hk1, hk7⟩ := hk8
      have hss : psum ws (j + 1) = s + k := by rw [psum_succ hjw, hs, hk]
      have hsk : s + k ≤ zs.length := by rw [← hss, ← KN.out.2.1, ← KN.out.2.2]; exact psum_le ws (j + 1)
      have hkq : k ≤ q := by omega
      obtain rfl := hA (by omega)
      obtain ⟨X0, X1, X2, X3, XR⟩ := Y.out
      have hbw := heap_lt X1
      have cw : wr.cell? ⟨bw, j, none⟩ = some (.int .i64 (k : Int)) := by
        rw [hbel.cell (p := ⟨bw, j, none⟩) hbw, cell_of_row _ _ _ _ _ _ X1, hk]
        simp [List.getD_eq_getElem?_getD, List.getElem?_eq_getElem hjw]
      have hrw := chunk_row (row_keep XR hbel (by have := X0.size; omega)) hsk
      have hcl := chunk_len hsk
      have HT : ∀ wr' : World, Row wr' b (off + 1 + s) ((zs.drop s).take k) → Calls Try.prog 42 #[.slice (some ⟨b, off + 1 + s, none⟩) k r] wr' fun e w' => e = .returned (.int .i64 (numOf ((zs.drop s).take k))) ∧ wr' = w' := fun wr' h => by
        have := take_any b (off + 1 + s) r _ wr' h (by omega) (by omega) (by omega) hr
        rwa [hcl] at this
      have hcn : numsOf zs ws (j + 1) = numsOf zs ws j ++ [numOf ((zs.drop s).take k)] := by rw [numsOf_succ, chunk, ← hs, ← hk]
      have HT1 := Lib.hid (HT wr hrw)
      generalize numOf ((zs.drop s).take k) = num at *
      have X := Lib.hid (And.intro hs (And.intro hss (And.intro hsk (And.intro hbel (And.intro hcn (And.intro hq (And.intro hown X0)))))))
      have hbs : W0.heap.size ≤ wr.heap.size := hbel.size
      clear hs hss hsk hcn hq hbel X0 X1 X2 X3 XR hrw hcl HT hA hk hown
      generalize hoe : off + 1 + s = o at *
      have HO := Lib.hid hoe
      clear hoe
      have kq : (k : Int) ≤ (q : Int) := by omega
      have kr : (k : Int) ≤ (r : Int) := by omega
      have qr : (q : Int) ≤ (r : Int) := by omega
      have hkr : k ≤ r := by omega
      by_cases hrk : r = k
      · subst hrk
        go_wp2_with (first | (go_at_call 42; refine HT1.out.mono ?_; rintro e w' ⟨rfl, rfl⟩) | (at_builtin; refine wpList_append_lies _ rfl (.tmp 46) (.tmp 51) 59 (by rfl) W0.heap.size 3 i0 (.int .i64 0) 1 8 und59 hi hz0 hz1 hz2 rfl (by omega) u4 j _ (by rfl) (X.out.2.2.2.2.2.2.1.alloc _) ⟨wr.heap.size, 0, none⟩ 1 1 [.int .i64 num] (by rfl) (by rfl) (by intro j' u hj'; match j', hj' with | 0, hj' => (simp at hj'; subst hj'; simp [Addr.add, go_sem])) (by intro u hu; simp at hu; subst hu; rfl) (by omega) (by unfold maxLen; omega) (by omega) (by simp; omega) (wr.heap.size + 1) (by simp) ?_; intro g cap1 w1' hown1 hgrow hat hlt1))
        obtain ⟨hs, hss, hsk, hbel, hcn, hq, _, X0⟩ := X.out
        refine ⟨⟨j + 1, 0, 0, s + r, _, by omega, by go_num, rfl, hss.symm, by omega, by omega, by omega, (fun h => absurd h (by omega)), ?_, ?_⟩, by simp [intOf]; omega⟩
        · rw [hcn, List.map_append]; exact hown1
        · exact (hbel.alloc hbs _).grown hgrow (by simp; omega) (fun j' hj' => (X.out.2.2.2.2.2.2.1.lt j' hj').1)
      · go_wp2_with (first | (go_at_call 42; refine HT1.out.mono ?_; rintro e w' ⟨rfl, rfl⟩) | (at_builtin; refine wpList_append_lies _ rfl (.tmp 46) (.tmp 51) 59 (by rfl) W0.heap.size 3 i0 (.int .i64 0) 1 8 und59 hi hz0 hz1 hz2 rfl (by omega) u4 j _ (by rfl) (X.out.2.2.2.2.2.2.1.alloc _) ⟨wr.heap.size, 0, none⟩ 1 1 [.int .i64 num] (by rfl) (by rfl) (by intro j' u hj'; match j', hj' with | 0, hj' => (simp at hj'; subst hj'; simp [Addr.add, go_sem])) (by intro u hu; simp at hu; subst hu; rfl) (by omega) (by unfold maxLen; omega) (by omega) (by simp; omega) (wr.heap.size + 1) (by simp) ?_; intro g cap1 w1' hown1 hgrow hat hlt1))
        obtain ⟨hs, hss, hsk, hbel, hcn, hq, _, X0⟩ := X.out
        refine ⟨⟨j + 1, q - k, r - k, s + k, _, by omega, by go_num, rfl, hss.symm, by omega, by omega, by omega, (fun _ => by rw [← Nat.add_assoc, HO.out]), ?_, ?_⟩, by simp [intOf]; omega⟩
        · rw [hcn, List.map_append]; exact hown1
        · exact (hbel.alloc hbs _).grown hgrow (by simp; omega) (fun j' hj' => (X.out.2.2.2.2.2.2.1.lt j' hj').1)
    · obtain ⟨X0, X1, X2, X3, XR⟩ := Y.out
      have e : j = len := by omega
      subst e
      have hkd := HKd.out
      have hnums := HNm.out
      subst hkd
      obtain ⟨g, cp, rfl, hg, hgl⟩ := hown.form (by omega)
      have hB := heap_lt X2
      have Bx := (hbel.block _ hB).trans X2
      obtain ⟨b0, b1, b2, b3, b4, b5, b6, b7⟩ := row8 Bx
      have bf := row_free Bx
      have hc0 : wr.cell? ⟨g, 0, none⟩ = some (.int .i64 t0) := by rw [hown.cellAt 0 (by rw [HL6.out]; decide), hnums]; rfl
      have hc1 : wr.cell? ⟨g, 1, none⟩ = some (.int .i64 t1) := by rw [hown.cellAt 1 (by rw [HL6.out]; decide), hnums]; rfl
      have hc2 : wr.cell? ⟨g, 2, none⟩ = some (.int .i64 t2) := by rw [hown.cellAt 2 (by rw [HL6.out]; decide), hnums]; rfl
      have hc3 : wr.cell? ⟨g, 3, none⟩ = some (.int .i64 t3) := by rw [hown.cellAt 3 (by rw [HL6.out]; decide), hnums]; rfl
      have hc4 : wr.cell? ⟨g, 4, none⟩ = some (.int .i64 x0) := by rw [hown.cellAt 4 (by rw [HL6.out]; decide), hnums]; rfl
      have hc5 : wr.cell? ⟨g, 5, none⟩ = some (.int .i64 y0) := by rw [hown.cellAt 5 (by rw [HL6.out]; decide), hnums]; rfl
      have j6 : j = 6 := HL6.out
      subst j6
      have gn1 : ¬ g = w.heap.size := by omega
      have gn2 : ¬ w.heap.size = g := by omega
      have T := Lib.hid (X0.trans (hbel.mono X0.size))
      have Bq := Lib.hid Bx
      clear hnums X0 X1 X2 X3 XR hown hbel hA hs hq Bx
      go_wp2
      refine wp_region_mix (by kernel_rfl) (by kernel_rfl) ?_
      have hw1 : IntKind.i64.wrap (IntKind.i32.wrap x0) = IntKind.i32.wrap x0 := i64_i32 x0
      have hw2 : IntKind.i64.wrap (IntKind.i32.wrap y0) = IntKind.i32.wrap y0 := i64_i32 y0
      repeat quiet_step ((first | (go_at_call 10; exact Calls.mix_same (KM.out _))))
      refine wpQuiet_nil ?_
      rintro _ ⟨xx, rfl⟩
      have hmix := mix_below wr xx
      have Bx := boxOn hmix Bq
      have T2 := bt2 hmix T
      have d0 := cell_below hmix hc0
      have d1 := cell_below hmix hc1
      have d2 := cell_below hmix hc2
      have d3 := cell_below hmix hc3
      clear b0 b1 b2 b3 b4 b5 b6 b7 bf hc0 hc1 hc2 hc3 hc4 hc5
      generalize mix wr xx = W6 at *
      clear hmix
      obtain ⟨b0, b1, b2, b3, b4, b5, b6, b7⟩ := row8 Bx.out
      have bf := row_free Bx.out
      go_wp2
      have XT : Below w.heap.size w (((((W6.setCell ⟨w.heap.size, 1, none⟩ (.int .i64 t0)).setCell ⟨w.heap.size, 2, none⟩ (.int .i64 t1)).setCell ⟨w.heap.size, 3, none⟩ (.int .i64 t2)).setCell ⟨w.heap.size, 4, none⟩ (.int .i64 t3)).setCell ⟨w.heap.size, 5, none⟩ (.complex .f64 cr ci)).drew :=
        (((((T2.out.setCell (p := ⟨w.heap.size, 1, none⟩) (Nat.le_refl _) _).setCell (p := ⟨w.heap.size, 2, none⟩) (Nat.le_refl _) _).setCell (p := ⟨w.heap.size, 3, none⟩) (Nat.le_refl _) _).setCell (p := ⟨w.heap.size, 4, none⟩) (Nat.le_refl _) _).setCell (p := ⟨w.heap.size, 5, none⟩) (Nat.le_refl _) _).drew
      have XB : (((((W6.setCell ⟨w.heap.size, 1, none⟩ (.int .i64 t0)).setCell ⟨w.heap.size, 2, none⟩ (.int .i64 t1)).setCell ⟨w.heap.size, 3, none⟩ (.int .i64 t2)).setCell ⟨w.heap.size, 4, none⟩ (.int .i64 t3)).setCell ⟨w.heap.size, 5, none⟩ (.complex .f64 cr ci)).drew.heap[w.heap.size]? =
          some (.cells #[.int .u8 1, .int .i64 t0, .int .i64 t1, .int .i64 t2, .int .i64 t3, .complex .f64 cr ci, .int .i64 0, .int .i64 0] 34 (0, 0)) := by
        simp [World.drew, World.setCell, Array.getElem?_modify, Bx.out]
      have HT := Lib.hid XT
      have HB := Lib.hid XB
      clear XT XB
      go_still_tail 15, (by kernel_rfl)
      change wpList _ _ _ _ _ W6.drew
      cases ok
      · go_wp2_with (go_at_call 43; refine (K43.out _).mono ?_; rintro e w2 ⟨rfl, hB⟩; have T := bt2 hB HT; have Bx := boxOn hB HB; clear hB; obtain ⟨a0, a1, a2, a3, a4, a5, a6, a7⟩ := row8 Bx.out; have bf := row_free Bx.out)
        go_step3
        go_wp2
        rw [jump_ret]
        refine postM_ret0 (v := .tuple #[zrec, .int .i64 11]) ?_ ⟨rfl, ?_⟩
        · simp [results, Try.results15, go_sem, zrec, *]
        · exact set8 T.out _ _ _ _ _ _ _ _
      · go_wp2_with (go_at_call 43; refine (K43.out _).mono ?_; rintro e w2 ⟨rfl, hB⟩; have T := bt2 hB HT; have Bx := boxOn hB HB; clear hB; obtain ⟨a0, a1, a2, a3, a4, a5, a6, a7⟩ := row8 Bx.out; have bf := row_free Bx.out)
        rw [jump_ret]
        refine postM_ret0 (v := .tuple #[.agg #[.int .u8 1, .int .i64 t0, .int .i64 t1, .int .i64 t2, .int .i64 t3, .complex .f64 cr ci, .int .i64 0, .int .i64 0], .int .i64 0]) ?_ ⟨rfl, ?_⟩
        · simp [results, Try.results15, go_sem, *]
        · exact set8 T.out _ _ _ _ _ _ _ _

end Go.Proofs.Ytcbneobdelbhlaa
