/-
  Package out: small callees (told, slices.Min, slices.Max, cmp.Compare, cmp.Or, event.Cmp, event.Less, record.Of, bytes.Equal).
  Package out: event.Cmp, event.Less, record.Of, bytes.Equal, slices.Min, slices.Max.
  Package out: slices.Min, slices.Max; events in rows; ContainsFunc over 'no event'.
-/
import Derived.Test.YtcbneobdelbhlaaSf
import Derived.StillTailTactics
namespace Go.Proofs.Ytcbneobdelbhlaa
open Go.RowKit Go.Shelf

theorem otold_any (k : Int) (w : World) : Calls Try.prog 62 #[.int .u8 k] w fun e w' => e = .returned (.bool (decide (k = 1 ∨ k = 2))) ∧ w = w' := by
  by_cases h1 : k = 1
  · subst h1
    go_enter Try.func62, Try.ntmps62
    go_wp2
    go_ret
    exact ⟨rfl, rfl⟩
  · by_cases h2 : k = 2
    · subst h2
      go_enter Try.func62, Try.ntmps62
      go_wp2
      go_ret
      exact ⟨rfl, rfl⟩
    · have f1 : (k == 1) = false := by simpa using h1
      have f2 : (k == 2) = false := by simpa using h2
      obtain ⟨R, hR⟩ : ∃ R, R = decide (k = 1 ∨ k = 2) := ⟨_, rfl⟩
      have HR : Hid (R = false) := Lib.hid (by rw [hR]; simp [h1, h2])
      rw [← hR]
      clear hR h1 h2
      go_enter Try.func62, Try.ntmps62
      go_wp2
      go_ret
      exact ⟨ret_bool HR.out.symm, rfl⟩

/-- A row of ints in memory. -/
def IntRow (w : World) (b : Nat) (zs : List Int) : Prop := ∀ i, i < zs.length → w.cell? ⟨b, i, none⟩ = some (.int .i64 (zs.getD i 0))

def minL : List Int → Int
  | [] => 0
  | x :: l => l.foldl min x
def maxL : List Int → Int
  | [] => 0
  | x :: l => l.foldl max x

theorem run_min2 (ts : Array TypeId) (t : TypeId) (a b : Int) (w : World) : (Builtin.min_ ts t #[.int .i64 a, .int .i64 b]).run Try.prog w = .ok (.int .i64 (min a b)) w := by
  simp [Builtin.min_, Builtin.min2]
  rw [Int.min_def]
  split <;> split <;> first | rfl | omega
theorem run_max2 (ts : Array TypeId) (t : TypeId) (a b : Int) (w : World) : (Builtin.max_ ts t #[.int .i64 a, .int .i64 b]).run Try.prog w = .ok (.int .i64 (max a b)) w := by
  simp [Builtin.max_, Builtin.max2]
  rw [Int.max_def]
  split <;> split <;> first | rfl | omega

def cmpI (x y : Int) : Int := if x < y then -1 else if y < x then 1 else 0

theorem cmp_int (x y : Int) (w : World) : Calls Try.prog 106 #[.int .i64 x, .int .i64 y] w fun e w' => e = .returned (.int .i64 (cmpI x y)) ∧ w = w' := by
  have hn : ∀ (z : Int) (w : World), Calls Try.prog 115 #[.int .i64 z] w fun e w' => e = .returned (.bool false) ∧ w = w' := by
    intro z w
    go_enter Try.func115, Try.ntmps115
    go_wp2
    go_ret
    exact ⟨rfl, rfl⟩
  have HN := Lib.hid hn
  clear hn
  rcases Int.lt_trichotomy x y with h | h | h
  · have h2 : ¬ y < x := by omega
    have HR : Hid (cmpI x y = -1) := Lib.hid (by simp [cmpI, h])
    generalize cmpI x y = R at *
    go_enter Try.func106, Try.ntmps106
    go_wp2_with (go_at_call 115; refine (HN.out _ _).mono ?_; rintro e w' ⟨rfl, rfl⟩)
    go_ret
    exact ⟨ret_int HR.out.symm, rfl⟩
  · subst h
    have HR : Hid (cmpI x x = 0) := Lib.hid (by simp [cmpI])
    generalize cmpI x x = R at *
    go_enter Try.func106, Try.ntmps106
    go_wp2_with (go_at_call 115; refine (HN.out _ _).mono ?_; rintro e w' ⟨rfl, rfl⟩)
    go_ret
    exact ⟨ret_int HR.out.symm, rfl⟩
  · have h2 : ¬ x < y := by omega
    have HR : Hid (cmpI x y = 1) := Lib.hid (by simp [cmpI, h, h2])
    generalize cmpI x y = R at *
    go_enter Try.func106, Try.ntmps106
    go_wp2_with (go_at_call 115; refine (HN.out _ _).mono ?_; rintro e w' ⟨rfl, rfl⟩)
    go_ret
    exact ⟨ret_int HR.out.symm, rfl⟩

def orI (a b c : Int) : Int := if a ≠ 0 then a else if b ≠ 0 then b else c

set_option maxHeartbeats 1000000 in
theorem or_three (a b c : Int) (g : Nat) (w : World) (h : w.heap[g]? = some (.cells #[.int .i64 a, .int .i64 b, .int .i64 c] 3 (0, 0))) :
    Calls Try.prog 105 #[.slice (some ⟨g, 0, none⟩) 3 3] w fun e w' => e = .returned (.int .i64 (orI a b c)) ∧ w = w' := by
  obtain ⟨k0, k1, k2⟩ := row3 h
  obtain ⟨R, hR⟩ : ∃ R, R = orI a b c := ⟨_, rfl⟩
  rw [← hR]
  have HR := Lib.hid hR
  clear hR h
  by_cases ha : a = 0
  · by_cases hb : b = 0
    · have HR2 : Hid (R = c) := Lib.hid (by rw [HR.out]; simp [orI, ha, hb])
      subst ha hb
      by_cases hc : c = 0
      · subst hc
        go_enter Try.func105, Try.ntmps105
        go_wp2
        refine wp_loop_rounds 4 ?_
        rw [rounds_succ]; go_wp2
        rw [rounds_succ]; go_wp2
        rw [rounds_succ]; go_wp2
        rw [rounds_succ]; go_wp2
        go_ret
        exact ⟨ret_int HR2.out.symm, rfl⟩
      · have fc : (c != 0) = true := by simpa using hc
        go_enter Try.func105, Try.ntmps105
        go_wp2
        refine wp_loop_rounds 3 ?_
        rw [rounds_succ]; go_wp2
        rw [rounds_succ]; go_wp2
        rw [rounds_succ]; go_wp2
        go_ret
        exact ⟨ret_int HR2.out.symm, rfl⟩
    · have HR2 : Hid (R = b) := Lib.hid (by rw [HR.out]; simp [orI, ha, hb])
      subst ha
      have fb' : (b != 0) = true := by simpa using hb
      go_enter Try.func105, Try.ntmps105
      go_wp2
      refine wp_loop_rounds 2 ?_
      rw [rounds_succ]; go_wp2
      rw [rounds_succ]; go_wp2
      go_ret
      exact ⟨ret_int HR2.out.symm, rfl⟩
  · have HR2 : Hid (R = a) := Lib.hid (by rw [HR.out]; simp [orI, ha])
    have fa : (a != 0) = true := by simpa using ha
    go_enter Try.func105, Try.ntmps105
    go_wp2
    refine wp_loop_rounds 1 ?_
    rw [rounds_succ]; go_wp2
    go_ret
    exact ⟨ret_int HR2.out.symm, rfl⟩

end Go.Proofs.Ytcbneobdelbhlaa

namespace Go.Proofs.Ytcbneobdelbhlaa
open Go.RowKit Go.Shelf

def cmpE (a1 a2 a3 b1 b2 b3 : Int) : Int := orI (cmpI a1 b1) (cmpI a2 b2) (cmpI a3 b3)

set_option maxHeartbeats 1000000 in
set_option maxRecDepth 100000 in
theorem ecmp_any (a1 a2 a3 a4 b1 b2 b3 b4 : Int) (ar ai br bi : Nat) (w : World) :
    Calls Try.prog 88 #[.agg #[.int .i64 a1, .int .i64 a2, .int .i64 a3, .int .i64 a4, .complex .f64 ar ai], .agg #[.int .i64 b1, .int .i64 b2, .int .i64 b3, .int .i64 b4, .complex .f64 br bi]] w fun e w' => e = .returned (.int .i64 (cmpE a1 a2 a3 b1 b2 b3)) ∧ Ext w w' := by
  have S1 := fun w => (cmp_int a1 b1 w).mono (R' := fun e w'' => e = .returned (.int .i64 (cmpI a1 b1)) ∧ w'' = w) (fun e w'' h => ⟨h.1, h.2.symm⟩)
  have S2 := fun w => (cmp_int a2 b2 w).mono (R' := fun e w'' => e = .returned (.int .i64 (cmpI a2 b2)) ∧ w'' = w) (fun e w'' h => ⟨h.1, h.2.symm⟩)
  have S3 := fun w => (cmp_int a3 b3 w).mono (R' := fun e w'' => e = .returned (.int .i64 (cmpI a3 b3)) ∧ w'' = w) (fun e w'' h => ⟨h.1, h.2.symm⟩)
  have H1 := Lib.hid S1
  have H2 := Lib.hid S2
  have H3 := Lib.hid S3
  have HO := Lib.hid (or_three (cmpI a1 b1) (cmpI a2 b2) (cmpI a3 b3))
  clear S1 S2 S3
  unfold cmpE
  generalize cmpI a1 b1 = r1 at *
  generalize cmpI a2 b2 = r2 at *
  generalize cmpI a3 b3 = r3 at *
  generalize orI r1 r2 r3 = R at *
  go_enter Try.func88, Try.ntmps88
  go_wp2
  have T : Hid (Ext w ((w.alloc (.cells #[.int .i64 a1, .int .i64 a2, .int .i64 a3, .int .i64 a4, .complex .f64 ar ai] 32)).alloc (.cells #[.int .i64 b1, .int .i64 b2, .int .i64 b3, .int .i64 b4, .complex .f64 br bi] 32))) := Lib.hid (((Ext.refl w).alloc _).alloc _)
  have c0 : ((w.alloc (.cells #[.int .i64 a1, .int .i64 a2, .int .i64 a3, .int .i64 a4, .complex .f64 ar ai] 32)).alloc (.cells #[.int .i64 b1, .int .i64 b2, .int .i64 b3, .int .i64 b4, .complex .f64 br bi] 32)).cell? ⟨w.heap.size, 0, none⟩ = some (.int .i64 a1) := by simp [go_sem]
  have c1 : ((w.alloc (.cells #[.int .i64 a1, .int .i64 a2, .int .i64 a3, .int .i64 a4, .complex .f64 ar ai] 32)).alloc (.cells #[.int .i64 b1, .int .i64 b2, .int .i64 b3, .int .i64 b4, .complex .f64 br bi] 32)).cell? ⟨w.heap.size, 1, none⟩ = some (.int .i64 a2) := by simp [go_sem]
  have c2 : ((w.alloc (.cells #[.int .i64 a1, .int .i64 a2, .int .i64 a3, .int .i64 a4, .complex .f64 ar ai] 32)).alloc (.cells #[.int .i64 b1, .int .i64 b2, .int .i64 b3, .int .i64 b4, .complex .f64 br bi] 32)).cell? ⟨w.heap.size, 2, none⟩ = some (.int .i64 a3) := by simp [go_sem]
  have d0 : ((w.alloc (.cells #[.int .i64 a1, .int .i64 a2, .int .i64 a3, .int .i64 a4, .complex .f64 ar ai] 32)).alloc (.cells #[.int .i64 b1, .int .i64 b2, .int .i64 b3, .int .i64 b4, .complex .f64 br bi] 32)).cell? ⟨w.heap.size + 1, 0, none⟩ = some (.int .i64 b1) := by simp [go_sem]
  have d1 : ((w.alloc (.cells #[.int .i64 a1, .int .i64 a2, .int .i64 a3, .int .i64 a4, .complex .f64 ar ai] 32)).alloc (.cells #[.int .i64 b1, .int .i64 b2, .int .i64 b3, .int .i64 b4, .complex .f64 br bi] 32)).cell? ⟨w.heap.size + 1, 1, none⟩ = some (.int .i64 b2) := by simp [go_sem]
  have d2 : ((w.alloc (.cells #[.int .i64 a1, .int .i64 a2, .int .i64 a3, .int .i64 a4, .complex .f64 ar ai] 32)).alloc (.cells #[.int .i64 b1, .int .i64 b2, .int .i64 b3, .int .i64 b4, .complex .f64 br bi] 32)).cell? ⟨w.heap.size + 1, 2, none⟩ = some (.int .i64 b3) := by simp [go_sem]
  generalize ((w.alloc (.cells #[.int .i64 a1, .int .i64 a2, .int .i64 a3, .int .i64 a4, .complex .f64 ar ai] 32)).alloc (.cells #[.int .i64 b1, .int .i64 b2, .int .i64 b3, .int .i64 b4, .complex .f64 br bi] 32)) = W at *
  refine wp_region_still_tail 15 (by kernel_rfl) (by kernel_rfl) ?_
  simp only [List.take_succ_cons, List.take_zero, List.drop_succ_cons, List.drop_zero]
  repeat still_step
  still_call (H1.out _)
  repeat still_step
  still_call (H2.out _)
  repeat still_step
  still_call (H3.out _)
  repeat still_step
  try refine wpStill_nil ?_
  change wpList _ _ _ _ _ W.drew
  go_wp2_with fail
  refine (HO.out W.drew.heap.size _ (World.alloc_heap_new W.drew _)).mono ?_
  rintro e w2 ⟨rfl, rfl⟩
  have T2 : Hid (Ext w (W.drew.alloc (.cells #[.int .i64 r1, .int .i64 r2, .int .i64 r3] 3))) := Lib.hid (T.out.drew.alloc _)
  go_wp2
  go_ret
  exact ⟨rfl, T2.out⟩

def lessE (a1 a2 a3 b1 b2 b3 : Int) : Bool := decide (cmpE a1 a2 a3 b1 b2 b3 < 0)

set_option maxHeartbeats 1000000 in
theorem eless_any (a1 a2 a3 a4 b1 b2 b3 b4 : Int) (ar ai br bi : Nat) (w : World) :
    Calls Try.prog 66 #[.agg #[.int .i64 a1, .int .i64 a2, .int .i64 a3, .int .i64 a4, .complex .f64 ar ai], .agg #[.int .i64 b1, .int .i64 b2, .int .i64 b3, .int .i64 b4, .complex .f64 br bi]] w fun e w' => e = .returned (.bool (lessE a1 a2 a3 b1 b2 b3)) ∧ Ext w w' := by
  have H := Lib.hid (ecmp_any a1 a2 a3 a4 b1 b2 b3 b4 ar ai br bi)
  unfold lessE
  generalize cmpE a1 a2 a3 b1 b2 b3 = R at *
  by_cases h : R < 0
  · have HR : Hid (decide (R < 0) = true) := Lib.hid (by simpa using h)
    generalize decide (R < 0) = D at *
    go_enter Try.func66, Try.ntmps66
    go_wp2_with (go_at_call 88; refine (H.out _).mono ?_; rintro e w1 ⟨rfl, hE⟩; have T := Lib.hid (Ext.of2 hE); clear hE)
    go_ret
    exact ⟨ret_bool (by rw [HR.out]; try simpa using h), T.out⟩
  · have h' : 0 ≤ R := by omega
    have HR : Hid (decide (R < 0) = false) := Lib.hid (by simpa using h')
    generalize decide (R < 0) = D at *
    clear h
    go_enter Try.func66, Try.ntmps66
    go_wp2_with (go_at_call 88; refine (H.out _).mono ?_; rintro e w1 ⟨rfl, hE⟩; have T := Lib.hid (Ext.of2 hE); clear hE)
    go_ret
    exact ⟨ret_bool (by rw [HR.out]; try simpa using h'), T.out⟩

theorem pof_any (a1 a2 a3 a4 : Int) (ar ai : Nat) (w : World) :
    Calls Try.prog 90 #[.agg #[.int .i64 a1, .int .i64 a2, .int .i64 a3, .int .i64 a4, .complex .f64 ar ai]] w fun e w' => e = .returned (.agg #[.int .u8 1, .int .i64 a1, .int .i64 a2, .int .i64 a3, .int .i64 a4, .complex .f64 ar ai, .int .i64 0, .int .i64 0]) ∧ Ext w w' := by
  go_enter Try.func90, Try.ntmps90
  go_wp2
  exact bodyPost_ret (v := .agg #[.int .u8 1, .int .i64 a1, .int .i64 a2, .int .i64 a3, .int .i64 a4, .complex .f64 ar ai, .int .i64 0, .int .i64 0]) (by simp [results, Try.results90, go_sem]) rfl ⟨rfl, ((Ext.refl w).alloc _).alloc _⟩

theorem strOfNums_eq {y z : List Int} (hy : ∀ x ∈ y, 0 ≤ x ∧ x ≤ 255) (hz : ∀ x ∈ z, 0 ≤ x ∧ x ≤ 255) (h : strOfNums y = strOfNums z) : y = z := by
  have h2 := congrArg (fun s : ByteArray => s.data.toList) h
  simp only [strOfNums_data] at h2
  have back : ∀ l : List Int, (∀ x ∈ l, 0 ≤ x ∧ x ≤ 255) → (l.map fun n => UInt8.ofNat n.toNat).map (fun b : UInt8 => (b.toNat : Int)) = l := by
    intro l hl
    rw [List.map_map]
    conv => rhs; rw [← List.map_id l]
    refine List.map_congr_left fun x hx => ?_
    obtain ⟨h0, h1⟩ := hl x hx
    simp only [Function.comp, UInt8.toNat_ofNat', id]
    omega
  rw [← back y hy, ← back z hz, h2]

set_option maxHeartbeats 400000 in
theorem bequal_any (A B : Option Addr) (n c n' c' : Nat) (y z : List Int) (w : World) (h1 : Conv w (.slice A n c) y) (h2 : Conv w (.slice B n' c') z) (hy : ∀ x ∈ y, 0 ≤ x ∧ x ≤ 255) (hz : ∀ x ∈ z, 0 ≤ x ∧ x ≤ 255) :
    Calls Try.prog 85 #[.slice A n c, .slice B n' c'] w fun e w' => e = .returned (.bool (decide (y = z))) ∧ w = w' := by
  unfold Conv at h1 h2
  have HD : Hid (decide (y = z) = ((strOfNums y).toList == (strOfNums z).toList)) := Lib.hid (by
    by_cases h : y = z
    · subst h; simp
    · have : ¬ (strOfNums y).toList = (strOfNums z).toList := fun e => h (strOfNums_eq hy hz (Go.WideShapes.bytes_inj (by rw [← ByteArray.toList_eq, ← ByteArray.toList_eq]; exact e)))
      simp [h, this])
  generalize decide (y = z) = D at *
  generalize strOfNums y = S at *
  generalize strOfNums z = T at *
  go_enter Try.func85, Try.ntmps85
  go_wp2
  go_ret
  exact ⟨ret_bool (by rw [HD.out]), rfl⟩

end Go.Proofs.Ytcbneobdelbhlaa

namespace Go.Proofs.Ytcbneobdelbhlaa
open Go.RowKit Go.Shelf

theorem minL_snoc (l : List Int) (x : Int) (h : 0 < l.length) : minL (l ++ [x]) = min (minL l) x := by
  match l, h with
  | a :: l, _ => simp [minL, List.foldl_append]
theorem maxL_snoc (l : List Int) (x : Int) (h : 0 < l.length) : maxL (l ++ [x]) = max (maxL l) x := by
  match l, h with
  | a :: l, _ => simp [maxL, List.foldl_append]
theorem minL_one (l : List Int) (h : 0 < l.length) : minL (l.take 1) = l.getD 0 0 := by
  match l, h with
  | a :: l, _ => rfl
theorem maxL_one (l : List Int) (h : 0 < l.length) : maxL (l.take 1) = l.getD 0 0 := by
  match l, h with
  | a :: l, _ => rfl

set_option maxHeartbeats 1000000 in
theorem smin_any (b cap : Nat) (zs : List Int) (w : World) (h : IntRow w b zs) (h1 : 1 ≤ zs.length) (hm : zs.length ≤ 1000) :
    Calls Try.prog 63 #[.slice (some ⟨b, 0, none⟩) zs.length cap] w fun e w' => e = .returned (.int .i64 (minL zs)) ∧ w = w' := by
  have HH := Lib.hid h
  generalize hlen : zs.length = len at *
  have HL := Lib.hid hlen
  have c0 : w.cell? ⟨b, 0, none⟩ = some (.int .i64 (zs.getD 0 0)) := h 0 (by omega)
  have e1 := minL_one zs (by omega)
  rw [← e1] at c0
  have HM := Lib.hid (fun w ts t a b => run_min2 ts t a b w)
  have hmin := fun ts t a b w => run_min2 ts t a b w
  clear h hlen e1
  have p1 : (1 : Int) ≤ len := by omega
  have p2 : (len : Int) ≤ 1000 := by omega
  have p3 : 0 < len := by omega
  go_enter Try.func63, Try.ntmps63
  go_wp2
  go_loop [3, 4] (fun n i => ∃ k : Nat, 1 ≤ k ∧ k ≤ len ∧ i = .int .i64 k ∧ n = .int .i64 (minL (zs.take k))) (fun _ i => len - (intOf i).toNat)
  case atStart => exact ⟨1, Nat.le_refl _, by omega, rfl, rfl⟩
  case round =>
    obtain ⟨k, hk1, hk, rfl, rfl⟩ := hrel
    by_cases hlt : k < len
    · have hcell := HH.out k (by rw [HL.out]; exact hlt)
      have hs : minL (zs.take (k + 1)) = min (minL (zs.take k)) (zs.getD k 0) := by
        have hkz : k < zs.length := by rw [HL.out]; exact hlt
        rw [List.take_succ_eq_append_getElem hkz, minL_snoc _ _ (by rw [List.length_take]; omega), List.getD_eq_getElem?_getD, List.getElem?_eq_getElem hkz]
        rfl
      have HS := Lib.hid hs
      clear hs
      generalize zs.getD k 0 = x at *
      generalize minL (zs.take k) = n at *
      go_wp2
      go_round
      case rel => exact ⟨k + 1, by omega, by omega, by go_num, by rw [HS.out]⟩
      case measure => simp [intOf]; omega
    · go_wp2
      go_ret
      have e : zs.take k = zs := List.take_of_length_le (by rw [HL.out]; omega)
      exact ⟨ret_int (by rw [e]), rfl⟩

set_option maxHeartbeats 1000000 in
theorem smax_any (b cap : Nat) (zs : List Int) (w : World) (h : IntRow w b zs) (h1 : 1 ≤ zs.length) (hm : zs.length ≤ 1000) :
    Calls Try.prog 64 #[.slice (some ⟨b, 0, none⟩) zs.length cap] w fun e w' => e = .returned (.int .i64 (maxL zs)) ∧ w = w' := by
  have HH := Lib.hid h
  generalize hlen : zs.length = len at *
  have HL := Lib.hid hlen
  have c0 : w.cell? ⟨b, 0, none⟩ = some (.int .i64 (zs.getD 0 0)) := h 0 (by omega)
  have e1 := maxL_one zs (by omega)
  rw [← e1] at c0
  have hmax := fun ts t a b w => run_max2 ts t a b w
  clear h hlen e1
  have p1 : (1 : Int) ≤ len := by omega
  have p2 : (len : Int) ≤ 1000 := by omega
  have p3 : 0 < len := by omega
  go_enter Try.func64, Try.ntmps64
  go_wp2
  go_loop [3, 4] (fun n i => ∃ k : Nat, 1 ≤ k ∧ k ≤ len ∧ i = .int .i64 k ∧ n = .int .i64 (maxL (zs.take k))) (fun _ i => len - (intOf i).toNat)
  case atStart => exact ⟨1, Nat.le_refl _, by omega, rfl, rfl⟩
  case round =>
    obtain ⟨k, hk1, hk, rfl, rfl⟩ := hrel
    by_cases hlt : k < len
    · have hcell := HH.out k (by rw [HL.out]; exact hlt)
      have hs : maxL (zs.take (k + 1)) = max (maxL (zs.take k)) (zs.getD k 0) := by
        have hkz : k < zs.length := by rw [HL.out]; exact hlt
        rw [List.take_succ_eq_append_getElem hkz, maxL_snoc _ _ (by rw [List.length_take]; omega), List.getD_eq_getElem?_getD, List.getElem?_eq_getElem hkz]
        rfl
      have HS := Lib.hid hs
      clear hs
      generalize zs.getD k 0 = x at *
      generalize maxL (zs.take k) = n at *
      go_wp2
      go_round
      case rel => exact ⟨k + 1, by omega, by omega, by go_num, by rw [HS.out]⟩
      case measure => simp [intOf]; omega
    · go_wp2
      go_ret
      have e : zs.take k = zs := List.take_of_length_le (by rw [HL.out]; omega)
      exact ⟨ret_int (by rw [e]), rfl⟩

end Go.Proofs.Ytcbneobdelbhlaa
