/-
  SplitParts' walk.
-/
import Derived.Test.YtcbneobdelbhlaaSv
namespace Go.Proofs.Ytcbneobdelbhlaa
open Go.RowKit Go.Shelf

set_option maxHeartbeats 1000000 in
set_option maxRecDepth 100000 in
theorem parts_long (A1 A2 : Option Addr) (n1 c1 n2 c2 : Nat) (w : World) (h : 1000 < n1 ∨ 1000 < n2) :
    Calls Try.prog 6 #[.slice A1 n1 c1, .slice A2 n2 c2] w fun e w' => e = .returned (.bool true) ∧ Ext w w' := by
  have hc : ((1000 : Int) < n1) ∨ ((n1 : Int) ≤ 1000 ∧ (1000 : Int) < n2) := by omega
  clear h
  rcases hc with h1 | ⟨h1, h2⟩
  all_goals
    go_enter Try.func6, Try.ntmps6
    go_wp2_with (go_at_call 19; refine (wakes06 _).mono ?_; rintro e w1 ⟨rfl, hB⟩)
    go_ret
    exact ⟨rfl, hB⟩

set_option maxHeartbeats 8000000 in
set_option maxRecDepth 100000 in
theorem parts_core (A1 A2 : Option Addr) (n1 c1 n2 c2 : Nat) (za zb : List Int) (w : World) (hA : Src w A1 n1 c1 za) (hB : Src w A2 n2 c2 zb) (hn1 : n1 ≤ 1000) (hn2 : n2 ≤ 1000) :
    Calls Try.prog 6 #[.slice A1 n1 c1, .slice A2 n2 c2] w fun e w' => e = .returned (.bool true) ∧ Ext w w' := by
  obtain ⟨i5, hi5, hz50, hz51, hz52⟩ := info_parts info5
  obtain ⟨i46, hi46, hz460, hz461, hz462⟩ := info_parts info46
  obtain ⟨i34, hi34, hz340, hz341, hz342⟩ := info_parts info34
  have HA := Lib.hid hA
  have HB := Lib.hid hB
  have p1 : (n1 : Int) ≤ 1000 := by omega
  have p2 : (n2 : Int) ≤ 1000 := by omega
  clear hA hB
  go_enter Try.func6, Try.ntmps6
  go_wp2_with fail
  refine (all_src _ _ _ za _ HA.out (by omega)).mono ?_
  rintro e w1 ⟨B1, k1, d1, xs, rfl, hB1, hB1', hk1, own1, hx1, hd1, hE1⟩
  have T1 := Lib.hid hE1
  have O1 := Lib.hid (And.intro own1 (And.intro hx1 (And.intro hd1 (And.intro hB1 hB1'))))
  have HK1 := Lib.hid hk1
  have hk1b : k1 ≤ 1000 := by
    have h1 := pcs_len za.length 0 za
    have h2 : (pieces za).length = k1 := by rw [← hd1, List.length_map, hk1]
    have h3 := HA.out.len
    unfold pieces at h2
    omega
  have q1 : (k1 : Int) ≤ 1000 := by omega
  clear hB1 hB1' hk1 own1 hx1 hd1 hE1
  have lastx : (k1 = 0 ∧ (pieces za).getLast? = none) ∨ (0 < k1 ∧ ∃ (g1 : Nat) (x : PX), B1 = some ⟨g1, 0, none⟩ ∧ w1.cell? ⟨g1, (k1 - 1) * 3 + 2, none⟩ = some (.bool x.d.cut) ∧ (pieces za).getLast? = some x.d) := by
    rcases Nat.eq_zero_or_pos k1 with h0 | h0
    · left
      have : xs = [] := List.eq_nil_of_length_eq_zero (by rw [HK1.out]; exact h0)
      exact ⟨h0, by rw [← O1.out.2.2.1, this]; rfl⟩
    · right
      obtain ⟨g1, c, e, _⟩ := O1.out.1.form h0
      injection e with e
      subst e
      obtain ⟨x, hx⟩ : ∃ x, xs[k1 - 1]? = some x := ⟨xs[k1 - 1]'(by rw [HK1.out]; omega), by simp⟩
      have hP : PiecesAt w1 w.heap.size (.slice (some ⟨g1, 0, none⟩) k1 d1) xs := ⟨by rw [HK1.out]; exact O1.out.1, O1.out.2.1⟩
      refine ⟨h0, g1, x, rfl, (hP.cell hx).2.2, ?_⟩
      rw [← O1.out.2.2.1, List.getLast?_eq_getElem?, List.length_map, HK1.out, List.getElem?_map, hx]
      rfl
  rcases lastx with ⟨h0e, hl0⟩ | ⟨hk0, g1, x, rfl, hcell, hl1⟩
  · have hlast : Hid (∀ d ∈ (pieces za).getLast?, d.cut = false) := Lib.hid (by rw [hl0]; intro d hd; cases hd)
    have h0' : decide ((0 : Int) < (k1 : Int)) = false := by simp; omega
    have h0n : decide (0 < k1) = false := by simp; omega
    have h0z : ¬ 0 < k1 := by omega
    clear h0e hl0
    go_wp2_with fail
    refine (all_src _ _ _ zb _ (HB.out.ext T1.out) (by omega)).mono ?_
    rintro e w2 ⟨B2, k2, d2, ys, rfl, hB2, hB2', hk2, own2, hx2, hd2, hE2⟩
    have T2 := Lib.hid (T1.out.trans hE2)
    have O2 := Lib.hid (And.intro own2 (And.intro hx2 (And.intro hd2 (And.intro hB2 (And.intro hB2' hE2)))))
    have HK2 := Lib.hid hk2
    have hk2b : k2 ≤ 1000 := by
      have h1 := pcs_len zb.length 0 zb
      have h2 : (pieces zb).length = k2 := by rw [← hd2, List.length_map, hk2]
      have h3 := HB.out.len
      unfold pieces at h2
      omega
    have q2 : (k2 : Int) ≤ 1000 := by omega
    clear hB2 hB2' hk2 own2 hx2 hd2 hE2
    go_wp2_with (first | (at_builtin; refine wpList_append_src rfl (.tmp 36) (.tmp 37) 30 (by rfl) w2.heap.size 5 i5 (.int .u8 0) 1 1 und30 hi5 hz50 hz51 hz52 rfl (by omega) w2.heap.size 0 0 [] (by rfl) (row_empty w2 5 1) A1 n1 c1 (za.map (Value.int .u8)) (by rfl) (by simp [HA.out.len]) HA.out.nil ((HA.out.ext (T2.out.alloc _)).news) (map_one za) (by unfold maxLen; omega) (by omega) (by simp) ?_; intro g3 c3 w3 hown hBe; (try simp only [Nat.zero_add, List.nil_append] at hown); have Y3 := Lib.hid (And.intro hown (show Ext w2 w3 from ((Below.refl _ w2).alloc (Nat.le_refl _) _).trans hBe)); clear hown hBe) | (at_builtin; refine wpList_append_src rfl (.tmp 38) (.tmp 39) 30 (by rfl) w2.heap.size 5 i5 (.int .u8 0) 1 1 und30 hi5 hz50 hz51 hz52 rfl (by omega) g3 c3 n1 (za.map (Value.int .u8)) (by rfl) Y3.out.1 A2 n2 c2 (zb.map (Value.int .u8)) (by rfl) (by simp [HB.out.len]) HB.out.nil ((HB.out.ext (T2.out.trans Y3.out.2)).news) (map_one zb) (by unfold maxLen; omega) (by omega) (Below.size Y3.out.2) ?_; intro g4 c4 w4 hown hBe; have Y4 := Lib.hid (And.intro hown (show Ext w2 w4 from Below.trans Y3.out.2 hBe)); clear hown hBe))
    have hzab : ∀ z ∈ za ++ zb, 0 ≤ z ∧ z ≤ 255 := fun z hz => (List.mem_append.1 hz).elim (HA.out.byte z) (HB.out.byte z)
    have S4 : Hid (Src w4 (some ⟨g4, 0, none⟩) (n1 + n2) c4 (za ++ zb)) := Lib.hid (src_of_own (by rw [List.map_append]; exact Y4.out.1) hzab)
    refine (all_src _ _ _ (za ++ zb) _ S4.out (by omega)).mono ?_
    rintro e w5 ⟨B5, k5, d5, zs, rfl, hB5, hB5', hk5, own5, hx5, hd5, hE5⟩
    have hparts := pieces_parts za zb (fun x hx => (HA.out.byte x hx).1) hlast.out
    rw [HA.out.len] at hparts
    have e5 : k5 = k1 + k2 := by
      have h1 := congrArg List.length hparts
      rw [← hd5, List.length_append, List.length_map, List.length_map, ← O1.out.2.2.1, ← O2.out.2.2.1, List.length_map, List.length_map, HK1.out, HK2.out, hk5] at h1
      exact h1
    subst e5
    have HK5 := Lib.hid hk5
    have HP := Lib.hid hparts
    have T5 := Lib.hid ((T2.out.trans Y4.out.2).trans hE5)
    have O5 := Lib.hid (And.intro own5 (And.intro hx5 (And.intro hd5 (And.intro hB5 (And.intro hB5' (Y4.out.2.trans hE5))))))
    have E45 : Hid (Ext w4 w5) := Lib.hid hE5
    have S5 : Hid (w4.heap.size ≤ w5.heap.size ∧ w1.heap.size ≤ w4.heap.size ∧ w1.heap.size ≤ w2.heap.size ∧ w.heap.size ≤ w1.heap.size ∧ w2.heap.size ≤ w4.heap.size) := Lib.hid ⟨Below.size hE5, Nat.le_trans (Below.size O2.out.2.2.2.2.2) (Below.size Y4.out.2), Below.size O2.out.2.2.2.2.2, Below.size T1.out, Below.size Y4.out.2⟩
    clear hB5 hB5' hk5 own5 hx5 hd5 hE5 hparts
    have r1 : IntKind.i64.wrap ((k1 : Int) + (k2 : Int)) = (k1 : Int) + (k2 : Int) := IntWalk.i64_in _ (by omega)
    go_wp2_with fail
    go_loopw [8] (fun v wr => ∃ j : Nat, j ≤ k2 ∧ v = .int .i64 j ∧ wr.ownsRow w1.heap.size 46 3 (.slice B2 k2 d2) k2 ((shiftRow n1 ys j).flatMap PX.cells) ∧ Kept (Zx B2) w5 wr) (fun v _ => k2 - (intOf v).toNat)
    case atStart => exact ⟨0, Nat.zero_le _, rfl, by rw [shiftRow_zero]; exact owns_ext O2.out.1 (Y4.out.2.trans E45.out), Kept.refl _ _⟩
    case round =>
      obtain ⟨j, hj, rfl, hown, hkept⟩ := hrel
      by_cases hlt : j < k2
      · obtain ⟨y, hy⟩ : ∃ y, ys[j]? = some y := ⟨ys[j]'(by rw [HK2.out]; exact hlt), by simp⟩
        obtain ⟨gm, hgm⟩ : ∃ gm, B2 = some ⟨gm, 0, none⟩ := by
          obtain ⟨g, c, e, _⟩ := hown.form (by omega)
          injection e with e
          exact ⟨g, e⟩
        have hat : y.d.at_ ≤ 1000 := by
          have h1 : y.d ∈ pieces zb := by rw [← O2.out.2.2.1]; exact List.mem_map_of_mem (List.mem_of_getElem? hy)
          have h2 := pcs_at _ _ _ _ h1
          have := HB.out.len
          omega
        rw [hgm] at hown hkept
        have hc : wr.cell? ⟨gm, j * 3, none⟩ = some (.int .i64 y.d.at_) := by
          rw [hown.cellAt (j * 3) (by omega), ← Nat.add_zero (j * 3), flat_at PX.cells 3 (fun _ => rfl) _ j 0 y (shiftRow_at hy) (by decide)]
          rfl
        have hf : wr.frozen? ⟨gm, j * 3, none⟩ = false := by
          rcases hown.2 with ⟨h, _⟩ | ⟨g, cap, cur, hv, _, hh, _⟩
          · cases h
          · injection hv with hv; injection hv with hv; injection hv with hv; subst hv; exact row_free hh _
        have hst := hown.stored (j * 3) (.int .i64 ((y.d.at_ + n1 : Nat) : Int))
        rw [shiftRow_set hy] at hst
        have X := Lib.hid (And.intro hst.1 (hkept.setCell (a := ⟨gm, j * 3, none⟩) (fun o _ h => h rfl) (.int .i64 ((y.d.at_ + n1 : Nat) : Int))))
        rw [Int.natCast_add] at X
        have HG := Lib.hid hgm
        clear hown hkept hst hy
        generalize y.d.at_ = ay at *
        have z0 : (0 : Int) ≤ (j : Int) := by omega
        have z1 : (j : Int) < (k2 : Int) := by omega
        subst hgm
        go_wp2
        go_roundw
        case rel => exact ⟨j + 1, by omega, by go_num, X.out.1, X.out.2⟩
        case measure => simp [intOf]; omega
      · have e : k2 = j := by omega
        subst e
        rw [shiftRow_all n1 ys k2 (by rw [HK2.out]; omega)] at hown
        have hB2g : ∀ k, k < w1.heap.size → B2 ≠ some ⟨k, 0, none⟩ := fun k hk h => by
          obtain ⟨g, hg, hge⟩ := O2.out.2.2.2.2.1 _ h
          injection hg with hg
          omega
        have T6 : Hid (Ext w wr) := Lib.hid (Kept.below T5.out (Below.size T5.out) (fun k hk _ => hB2g k (by have := S5.out.2.2.2.1; omega)) hkept)
        have E16 : Hid (Ext w1 wr) := Lib.hid (Kept.below (O2.out.2.2.2.2.2.trans (Y4.out.2.trans E45.out)) (Below.size (O2.out.2.2.2.2.2.trans (Y4.out.2.trans E45.out))) (fun k hk _ => hB2g k hk) hkept)
        have own2' := owns_ext O2.out.1 (Y4.out.2.trans E45.out)
        have keep5 : ∀ (g c m : Nat) (us : List Value), w5.ownsRow 0 5 1 (.slice (some ⟨g, 0, none⟩) m c) m us → wr.ownsRow 0 5 1 (.slice (some ⟨g, 0, none⟩) m c) m us := fun g c m us h => own_kept h hkept (fun g' hg' hb => by
          injection hg' with hg'
          injection hg' with hg'
          subst hg'
          rw [hb] at own2'
          rcases h.2 with ⟨h, _⟩ | ⟨g3', cap, cur, hv, _, hh, _⟩
          · cases h
          · injection hv with hv; injection hv with hv; injection hv with hv; subst hv
            exact row_ne' own2' hh (by decide) rfl)
        have own5' : Hid (wr.ownsRow w4.heap.size 46 3 (.slice B5 (k1 + k2) d5) (k1 + k2) (zs.flatMap PX.cells)) := Lib.hid (own_kept O5.out.1 hkept (fun g hg hb => by
          obtain ⟨g', hg', hge⟩ := O5.out.2.2.2.2.1 _ hg
          injection hg' with hg'
          have hl := own_lt (hb ▸ O2.out.1)
          have := S5.out.2.2.2.2
          omega))
        have hz6 : Hid (∀ x ∈ zs, x.Owns wr) := Lib.hid (fun x hx => keep5 _ _ _ _ (O5.out.2.1 x hx))
        have hy6 : Hid (∀ x ∈ ys, x.Owns wr) := Lib.hid (fun x hx => keep5 _ _ _ _ (owns_ext (O2.out.2.1 x hx) (Y4.out.2.trans E45.out)))
        have own6 := Lib.hid hown
        clear hown hkept hB2g own2' keep5
        go_wp2_with fail
        refine (recs_src _ _ _ za _ (HA.out.ext (T6.out.alloc _)) (by omega)).mono ?_
        rintro e w7 ⟨B7, k7, d7, rfl, hB7, -, hk7, own7, hE7⟩
        have O7 := Lib.hid (And.intro (And.intro hB7 own7) hE7)
        have HK7 := Lib.hid hk7
        have k7b : k7 ≤ 1000 := by
          have h1 := recsOf_len (pieces za)
          have h2 := pcs_len za.length 0 za
          have h3 := HA.out.len
          unfold recsD at hk7
          unfold pieces at h1 hk7
          omega
        clear hB7 hk7 own7 hE7
        go_wp2_with (at_builtin; refine wpList_append_src rfl (.tmp 68) (.tmp 70) 49 (by rfl) wr.heap.size 34 i34 zrec 8 72 und49 hi34 hz340 hz341 hz342 rfl (by omega) wr.heap.size 0 0 [] (by rfl) (owns_ext (row_empty wr 34 8) O7.out.2) B7 k7 d7 ((recsD za).flatMap RecD.cells) (by rfl) O7.out.1.2.1 O7.out.1.1 (own_news O7.out.1.2) (flat_one' _) (by unfold maxLen; omega) (by omega) (by have := Below.size O7.out.2; simp at this; omega) ?_; intro g8 c8 w8 hown hBe; (try simp only [Nat.zero_add, List.nil_append] at hown); have Y8 := Lib.hid (And.intro hown (show Ext wr w8 from (Below.trans (((Below.refl _ wr).alloc (Nat.le_refl _) _).trans (Below.mono O7.out.2 (by simp))) hBe))); clear hown hBe)
        refine (recs_src _ _ _ zb _ (HB.out.ext (T6.out.trans Y8.out.2)) (by omega)).mono ?_
        rintro e w9 ⟨B9, k9, d9, rfl, hB9, -, hk9, own9, hE9⟩
        have O9 := Lib.hid (And.intro (And.intro hB9 own9) hE9)
        have HK9 := Lib.hid hk9
        have k9b : k9 ≤ 1000 := by
          have h1 := recsOf_len (pieces zb)
          have h2 := pcs_len zb.length 0 zb
          have h3 := HB.out.len
          unfold recsD at hk9
          unfold pieces at h1 hk9
          omega
        clear hB9 hk9 own9 hE9
        go_wp2_with (first | (at_builtin; refine wpList_append_src rfl (.tmp 71) (.tmp 73) 49 (by rfl) wr.heap.size 34 i34 zrec 8 72 und49 hi34 hz340 hz341 hz342 rfl (by omega) g8 c8 k7 ((recsD za).flatMap RecD.cells) (by rfl) (owns_ext Y8.out.1 O9.out.2) B9 k9 d9 ((recsD zb).flatMap RecD.cells) (by rfl) O9.out.1.2.1 O9.out.1.1 (own_news O9.out.1.2) (flat_one' _) (by unfold maxLen; omega) (by omega) (Nat.le_trans (Below.size Y8.out.2) (Below.size O9.out.2)) ?_; intro g10 c10 w10 hown hBe; (try simp only [Nat.zero_add, List.nil_append] at hown); have Y10 := Lib.hid (And.intro hown (show Ext wr w10 from (Below.trans (Ext.trans Y8.out.2 O9.out.2) hBe))); clear hown hBe) | (at_builtin; refine wpList_append_src rfl (.tmp 76) (.tmp 77) 42 (by rfl) w10.heap.size 46 i46 (.agg #[.int .i64 0, .slice none 0 0, .bool false]) 3 40 und42 hi46 hz460 hz461 hz462 rfl (by omega) w10.heap.size 0 0 [] (by rfl) (row_empty w10 46 3) _ k1 d1 (xs.flatMap PX.cells) (by rfl) (owns_ext O1.out.1 (E16.out.trans (Y10.out.2.alloc (.cells #[] 46)))).1 O1.out.2.2.2.1 (own_news (owns_ext O1.out.1 (E16.out.trans (Y10.out.2.alloc _)))) (flat_one _) (by unfold maxLen; omega) (by omega) (by simp) ?_; intro g11 c11 w11 hown hBe; (try simp only [Nat.zero_add, List.nil_append] at hown); have Y11 := Lib.hid (And.intro hown (show Ext w10 w11 from ((Below.refl _ w10).alloc (Nat.le_refl _) _).trans hBe)); clear hown hBe) | (at_builtin; refine wpList_append_src rfl (.tmp 78) (.tmp 79) 42 (by rfl) w10.heap.size 46 i46 (.agg #[.int .i64 0, .slice none 0 0, .bool false]) 3 40 und42 hi46 hz460 hz461 hz462 rfl (by omega) g11 c11 k1 (xs.flatMap PX.cells) (by rfl) Y11.out.1 B2 k2 d2 ((ys.map (PX.shift n1)).flatMap PX.cells) (by rfl) own6.out.1 O2.out.2.2.2.1 (own_news (owns_ext own6.out (Y10.out.2.trans Y11.out.2))) (flat_one _) (by unfold maxLen; omega) (by omega) (Below.size Y11.out.2) ?_; intro g12 c12 w12 hown hBe; (try simp only [Nat.zero_add, List.nil_append] at hown); have Y12 := Lib.hid (And.intro hown (show Ext w10 w12 from (Below.trans Y11.out.2 hBe))); clear hown hBe))
        have E12 : Hid (Ext wr w12) := Lib.hid (Ext.trans Y10.out.2 Y12.out.2)
        refine (rpieces_src B5 _ (k1 + k2) d5 c12 w4.heap.size w10.heap.size zs (xs ++ ys.map (PX.shift n1)) w12 HK5.out (by rw [List.length_append, List.length_map, HK1.out, HK2.out]) (by omega)
          (by rw [O5.out.2.2.1, HP.out, List.map_append, O1.out.2.2.1, List.map_map, ← O2.out.2.2.1, List.map_map]; rfl)
          (owns_ext own5'.out E12.out) (fun x hx => owns_ext (hz6.out x hx) E12.out) (by rw [List.flatMap_append]; exact Y12.out.1)
          (fun y hy => (List.mem_append.1 hy).elim (fun h => owns_ext (O1.out.2.1 y h) (E16.out.trans E12.out)) (fun h => by obtain ⟨y', hy', rfl⟩ := List.mem_map.1 h; exact PX.shift_owns n1 (owns_ext (hy6.out y' hy') E12.out)))
          (fun x hx z hz => hzab z (pcs_byte _ _ _ x.d (by have : x.d ∈ zs.map PX.d := List.mem_map_of_mem hx; rw [O5.out.2.2.1] at this; exact this) z hz))).mono ?_
        rintro e w13 ⟨rfl, hE13⟩
        have T13 := Lib.hid ((T6.out.trans E12.out).trans hE13)
        have E13 := Lib.hid ((show Ext w10 w12 from Y12.out.2).trans hE13)
        clear hE13
        go_wp2_with (first | (at_builtin; refine wpList_append_srcg (by rfl) (.tmp 83) (.tmp 84) 30 (by rfl) w13.heap.size 5 i5 (.int .u8 0) 1 1 und30 hi5 hz50 hz51 hz52 rfl (by omega) w13.heap.size 0 0 [] (by rfl) (row_empty w13 5 1) A1 n1 c1 (za.map (Value.int .u8)) (by rfl) (by simp [HA.out.len]) HA.out.nil ((HA.out.ext (T13.out.alloc _)).news) (map_one za) (by unfold maxLen; omega) (by omega) (by simp) ?_; intro g14 c14 w14 hown hBe; (try simp only [Nat.zero_add, List.nil_append] at hown); have Y14 := Lib.hid (And.intro hown (show Ext w13 w14 from ((Below.refl _ w13).alloc (Nat.le_refl _) _).trans hBe)); clear hown hBe) | (at_builtin; refine wpList_append_srcg (by rfl) (.tmp 85) (.tmp 86) 30 (by rfl) w13.heap.size 5 i5 (.int .u8 0) 1 1 und30 hi5 hz50 hz51 hz52 rfl (by omega) g14 c14 n1 (za.map (Value.int .u8)) (by rfl) Y14.out.1 A2 n2 c2 (zb.map (Value.int .u8)) (by rfl) (by simp [HB.out.len]) HB.out.nil ((HB.out.ext (T13.out.trans Y14.out.2)).news) (map_one zb) (by unfold maxLen; omega) (by omega) (Below.size Y14.out.2) ?_; intro g15 c15 w15 hown hBe; (try simp only [Nat.zero_add, List.nil_append] at hown); have Y15 := Lib.hid (And.intro hown (show Ext w13 w15 from Below.trans Y14.out.2 hBe)); clear hown hBe))
        have S15 : Hid (Src w15 (some ⟨g15, 0, none⟩) (n1 + n2) c15 (za ++ zb)) := Lib.hid (src_of_own (by rw [List.map_append]; exact Y15.out.1) hzab)
        refine (recs_src _ _ _ (za ++ zb) _ S15.out (by omega)).mono ?_
        rintro e w16 ⟨B16, k16, d16, rfl, hB16, -, hk16, own16, hE16⟩
        have hrp := recs_parts za zb (fun x hx => (HA.out.byte x hx).1) hlast.out
        have e16 : k16 = k7 + k9 := by
          rw [← hk16, hrp, List.length_append, HK7.out, HK9.out]
        subst e16
        have O16 := Lib.hid (And.intro hk16 (And.intro own16 (And.intro hE16 hrp)))
        clear hB16 hk16 own16 hE16 hrp
        go_wp2_with fail
        refine (rrecs_src B16 _ (k7 + k9) d16 c10 w15.heap.size wr.heap.size (recsD (za ++ zb)) w16 O16.out.1 (by omega) (recsD_inside _ hzab) O16.out.2.1 (by
          rw [O16.out.2.2.2, List.flatMap_append]
          exact owns_ext Y10.out.1 ((E13.out.trans Y15.out.2).trans O16.out.2.2.1))).mono ?_
        rintro e w17 ⟨rfl, hE17⟩
        have T17 := Lib.hid (((T13.out.trans Y15.out.2).trans O16.out.2.2.1).trans hE17)
        clear hE17
        go_wp2_with fail
        refine (wakes06 _).mono ?_
        rintro e w18 ⟨rfl, hE18⟩
        have T18 := Lib.hid (T17.out.trans hE18)
        clear hE18
        go_wp2
        go_ret
        exact ⟨rfl, T18.out⟩
  have h0' : (0 : Int) < (k1 : Int) := by omega
  have y1 : IntKind.i64.wrap ((k1 : Int) - 1) = (k1 : Int) - 1 := IntWalk.i64_in _ (by omega)
  have y2 : ((k1 : Int) - 1).toNat = k1 - 1 := by omega
  have y3 : (0 : Int) ≤ (k1 : Int) - 1 := by omega
  have y4 : (1 : Int) ≤ (k1 : Int) := by omega
  have y5 : (k1 : Int) - 1 < (k1 : Int) := by omega
  rcases hxc : x.d.cut with _ | _
  · have hlast : Hid (∀ d ∈ (pieces za).getLast?, d.cut = false) := Lib.hid (by rw [hl1]; intro d hd; rw [Option.mem_def] at hd; injection hd with hd; rw [← hd]; exact hxc)
    rw [hxc] at hcell
    clear hl1 hxc
    go_wp2_with fail
    refine (all_src _ _ _ zb _ (HB.out.ext T1.out) (by omega)).mono ?_
    rintro e w2 ⟨B2, k2, d2, ys, rfl, hB2, hB2', hk2, own2, hx2, hd2, hE2⟩
    have T2 := Lib.hid (T1.out.trans hE2)
    have O2 := Lib.hid (And.intro own2 (And.intro hx2 (And.intro hd2 (And.intro hB2 (And.intro hB2' hE2)))))
    have HK2 := Lib.hid hk2
    have hk2b : k2 ≤ 1000 := by
      have h1 := pcs_len zb.length 0 zb
      have h2 : (pieces zb).length = k2 := by rw [← hd2, List.length_map, hk2]
      have h3 := HB.out.len
      unfold pieces at h2
      omega
    have q2 : (k2 : Int) ≤ 1000 := by omega
    clear hB2 hB2' hk2 own2 hx2 hd2 hE2
    go_wp2_with (first | (at_builtin; refine wpList_append_src rfl (.tmp 36) (.tmp 37) 30 (by rfl) w2.heap.size 5 i5 (.int .u8 0) 1 1 und30 hi5 hz50 hz51 hz52 rfl (by omega) w2.heap.size 0 0 [] (by rfl) (row_empty w2 5 1) A1 n1 c1 (za.map (Value.int .u8)) (by rfl) (by simp [HA.out.len]) HA.out.nil ((HA.out.ext (T2.out.alloc _)).news) (map_one za) (by unfold maxLen; omega) (by omega) (by simp) ?_; intro g3 c3 w3 hown hBe; (try simp only [Nat.zero_add, List.nil_append] at hown); have Y3 := Lib.hid (And.intro hown (show Ext w2 w3 from ((Below.refl _ w2).alloc (Nat.le_refl _) _).trans hBe)); clear hown hBe) | (at_builtin; refine wpList_append_src rfl (.tmp 38) (.tmp 39) 30 (by rfl) w2.heap.size 5 i5 (.int .u8 0) 1 1 und30 hi5 hz50 hz51 hz52 rfl (by omega) g3 c3 n1 (za.map (Value.int .u8)) (by rfl) Y3.out.1 A2 n2 c2 (zb.map (Value.int .u8)) (by rfl) (by simp [HB.out.len]) HB.out.nil ((HB.out.ext (T2.out.trans Y3.out.2)).news) (map_one zb) (by unfold maxLen; omega) (by omega) (Below.size Y3.out.2) ?_; intro g4 c4 w4 hown hBe; have Y4 := Lib.hid (And.intro hown (show Ext w2 w4 from Below.trans Y3.out.2 hBe)); clear hown hBe))
    have hzab : ∀ z ∈ za ++ zb, 0 ≤ z ∧ z ≤ 255 := fun z hz => (List.mem_append.1 hz).elim (HA.out.byte z) (HB.out.byte z)
    have S4 : Hid (Src w4 (some ⟨g4, 0, none⟩) (n1 + n2) c4 (za ++ zb)) := Lib.hid (src_of_own (by rw [List.map_append]; exact Y4.out.1) hzab)
    refine (all_src _ _ _ (za ++ zb) _ S4.out (by omega)).mono ?_
    rintro e w5 ⟨B5, k5, d5, zs, rfl, hB5, hB5', hk5, own5, hx5, hd5, hE5⟩
    have hparts := pieces_parts za zb (fun x hx => (HA.out.byte x hx).1) hlast.out
    rw [HA.out.len] at hparts
    have e5 : k5 = k1 + k2 := by
      have h1 := congrArg List.length hparts
      rw [← hd5, List.length_append, List.length_map, List.length_map, ← O1.out.2.2.1, ← O2.out.2.2.1, List.length_map, List.length_map, HK1.out, HK2.out, hk5] at h1
      exact h1
    subst e5
    have HK5 := Lib.hid hk5
    have HP := Lib.hid hparts
    have T5 := Lib.hid ((T2.out.trans Y4.out.2).trans hE5)
    have O5 := Lib.hid (And.intro own5 (And.intro hx5 (And.intro hd5 (And.intro hB5 (And.intro hB5' (Y4.out.2.trans hE5))))))
    have E45 : Hid (Ext w4 w5) := Lib.hid hE5
    have S5 : Hid (w4.heap.size ≤ w5.heap.size ∧ w1.heap.size ≤ w4.heap.size ∧ w1.heap.size ≤ w2.heap.size ∧ w.heap.size ≤ w1.heap.size ∧ w2.heap.size ≤ w4.heap.size) := Lib.hid ⟨Below.size hE5, Nat.le_trans (Below.size O2.out.2.2.2.2.2) (Below.size Y4.out.2), Below.size O2.out.2.2.2.2.2, Below.size T1.out, Below.size Y4.out.2⟩
    clear hB5 hB5' hk5 own5 hx5 hd5 hE5 hparts
    have r1 : IntKind.i64.wrap ((k1 : Int) + (k2 : Int)) = (k1 : Int) + (k2 : Int) := IntWalk.i64_in _ (by omega)
    go_wp2_with fail
    go_loopw [8] (fun v wr => ∃ j : Nat, j ≤ k2 ∧ v = .int .i64 j ∧ wr.ownsRow w1.heap.size 46 3 (.slice B2 k2 d2) k2 ((shiftRow n1 ys j).flatMap PX.cells) ∧ Kept (Zx B2) w5 wr) (fun v _ => k2 - (intOf v).toNat)
    case atStart => exact ⟨0, Nat.zero_le _, rfl, by rw [shiftRow_zero]; exact owns_ext O2.out.1 (Y4.out.2.trans E45.out), Kept.refl _ _⟩
    case round =>
      obtain ⟨j, hj, rfl, hown, hkept⟩ := hrel
      by_cases hlt : j < k2
      · obtain ⟨y, hy⟩ : ∃ y, ys[j]? = some y := ⟨ys[j]'(by rw [HK2.out]; exact hlt), by simp⟩
        obtain ⟨gm, hgm⟩ : ∃ gm, B2 = some ⟨gm, 0, none⟩ := by
          obtain ⟨g, c, e, _⟩ := hown.form (by omega)
          injection e with e
          exact ⟨g, e⟩
        have hat : y.d.at_ ≤ 1000 := by
          have h1 : y.d ∈ pieces zb := by rw [← O2.out.2.2.1]; exact List.mem_map_of_mem (List.mem_of_getElem? hy)
          have h2 := pcs_at _ _ _ _ h1
          have := HB.out.len
          omega
        rw [hgm] at hown hkept
        have hc : wr.cell? ⟨gm, j * 3, none⟩ = some (.int .i64 y.d.at_) := by
          rw [hown.cellAt (j * 3) (by omega), ← Nat.add_zero (j * 3), flat_at PX.cells 3 (fun _ => rfl) _ j 0 y (shiftRow_at hy) (by decide)]
          rfl
        have hf : wr.frozen? ⟨gm, j * 3, none⟩ = false := by
          rcases hown.2 with ⟨h, _⟩ | ⟨g, cap, cur, hv, _, hh, _⟩
          · cases h
          · injection hv with hv; injection hv with hv; injection hv with hv; subst hv; exact row_free hh _
        have hst := hown.stored (j * 3) (.int .i64 ((y.d.at_ + n1 : Nat) : Int))
        rw [shiftRow_set hy] at hst
        have X := Lib.hid (And.intro hst.1 (hkept.setCell (a := ⟨gm, j * 3, none⟩) (fun o _ h => h rfl) (.int .i64 ((y.d.at_ + n1 : Nat) : Int))))
        rw [Int.natCast_add] at X
        have HG := Lib.hid hgm
        clear hown hkept hst hy
        generalize y.d.at_ = ay at *
        have z0 : (0 : Int) ≤ (j : Int) := by omega
        have z1 : (j : Int) < (k2 : Int) := by omega
        subst hgm
        go_wp2
        go_roundw
        case rel => exact ⟨j + 1, by omega, by go_num, X.out.1, X.out.2⟩
        case measure => simp [intOf]; omega
      · have e : k2 = j := by omega
        subst e
        rw [shiftRow_all n1 ys k2 (by rw [HK2.out]; omega)] at hown
        have hB2g : ∀ k, k < w1.heap.size → B2 ≠ some ⟨k, 0, none⟩ := fun k hk h => by
          obtain ⟨g, hg, hge⟩ := O2.out.2.2.2.2.1 _ h
          injection hg with hg
          omega
        have T6 : Hid (Ext w wr) := Lib.hid (Kept.below T5.out (Below.size T5.out) (fun k hk _ => hB2g k (by have := S5.out.2.2.2.1; omega)) hkept)
        have E16 : Hid (Ext w1 wr) := Lib.hid (Kept.below (O2.out.2.2.2.2.2.trans (Y4.out.2.trans E45.out)) (Below.size (O2.out.2.2.2.2.2.trans (Y4.out.2.trans E45.out))) (fun k hk _ => hB2g k hk) hkept)
        have own2' := owns_ext O2.out.1 (Y4.out.2.trans E45.out)
        have keep5 : ∀ (g c m : Nat) (us : List Value), w5.ownsRow 0 5 1 (.slice (some ⟨g, 0, none⟩) m c) m us → wr.ownsRow 0 5 1 (.slice (some ⟨g, 0, none⟩) m c) m us := fun g c m us h => own_kept h hkept (fun g' hg' hb => by
          injection hg' with hg'
          injection hg' with hg'
          subst hg'
          rw [hb] at own2'
          rcases h.2 with ⟨h, _⟩ | ⟨g3', cap, cur, hv, _, hh, _⟩
          · cases h
          · injection hv with hv; injection hv with hv; injection hv with hv; subst hv
            exact row_ne' own2' hh (by decide) rfl)
        have own5' : Hid (wr.ownsRow w4.heap.size 46 3 (.slice B5 (k1 + k2) d5) (k1 + k2) (zs.flatMap PX.cells)) := Lib.hid (own_kept O5.out.1 hkept (fun g hg hb => by
          obtain ⟨g', hg', hge⟩ := O5.out.2.2.2.2.1 _ hg
          injection hg' with hg'
          have hl := own_lt (hb ▸ O2.out.1)
          have := S5.out.2.2.2.2
          omega))
        have hz6 : Hid (∀ x ∈ zs, x.Owns wr) := Lib.hid (fun x hx => keep5 _ _ _ _ (O5.out.2.1 x hx))
        have hy6 : Hid (∀ x ∈ ys, x.Owns wr) := Lib.hid (fun x hx => keep5 _ _ _ _ (owns_ext (O2.out.2.1 x hx) (Y4.out.2.trans E45.out)))
        have own6 := Lib.hid hown
        clear hown hkept hB2g own2' keep5
        go_wp2_with fail
        refine (recs_src _ _ _ za _ (HA.out.ext (T6.out.alloc _)) (by omega)).mono ?_
        rintro e w7 ⟨B7, k7, d7, rfl, hB7, -, hk7, own7, hE7⟩
        have O7 := Lib.hid (And.intro (And.intro hB7 own7) hE7)
        have HK7 := Lib.hid hk7
        have k7b : k7 ≤ 1000 := by
          have h1 := recsOf_len (pieces za)
          have h2 := pcs_len za.length 0 za
          have h3 := HA.out.len
          unfold recsD at hk7
          unfold pieces at h1 hk7
          omega
        clear hB7 hk7 own7 hE7
        go_wp2_with (at_builtin; refine wpList_append_src rfl (.tmp 68) (.tmp 70) 49 (by rfl) wr.heap.size 34 i34 zrec 8 72 und49 hi34 hz340 hz341 hz342 rfl (by omega) wr.heap.size 0 0 [] (by rfl) (owns_ext (row_empty wr 34 8) O7.out.2) B7 k7 d7 ((recsD za).flatMap RecD.cells) (by rfl) O7.out.1.2.1 O7.out.1.1 (own_news O7.out.1.2) (flat_one' _) (by unfold maxLen; omega) (by omega) (by have := Below.size O7.out.2; simp at this; omega) ?_; intro g8 c8 w8 hown hBe; (try simp only [Nat.zero_add, List.nil_append] at hown); have Y8 := Lib.hid (And.intro hown (show Ext wr w8 from (Below.trans (((Below.refl _ wr).alloc (Nat.le_refl _) _).trans (Below.mono O7.out.2 (by simp))) hBe))); clear hown hBe)
        refine (recs_src _ _ _ zb _ (HB.out.ext (T6.out.trans Y8.out.2)) (by omega)).mono ?_
        rintro e w9 ⟨B9, k9, d9, rfl, hB9, -, hk9, own9, hE9⟩
        have O9 := Lib.hid (And.intro (And.intro hB9 own9) hE9)
        have HK9 := Lib.hid hk9
        have k9b : k9 ≤ 1000 := by
          have h1 := recsOf_len (pieces zb)
          have h2 := pcs_len zb.length 0 zb
          have h3 := HB.out.len
          unfold recsD at hk9
          unfold pieces at h1 hk9
          omega
        clear hB9 hk9 own9 hE9
        go_wp2_with (first | (at_builtin; refine wpList_append_src rfl (.tmp 71) (.tmp 73) 49 (by rfl) wr.heap.size 34 i34 zrec 8 72 und49 hi34 hz340 hz341 hz342 rfl (by omega) g8 c8 k7 ((recsD za).flatMap RecD.cells) (by rfl) (owns_ext Y8.out.1 O9.out.2) B9 k9 d9 ((recsD zb).flatMap RecD.cells) (by rfl) O9.out.1.2.1 O9.out.1.1 (own_news O9.out.1.2) (flat_one' _) (by unfold maxLen; omega) (by omega) (Nat.le_trans (Below.size Y8.out.2) (Below.size O9.out.2)) ?_; intro g10 c10 w10 hown hBe; (try simp only [Nat.zero_add, List.nil_append] at hown); have Y10 := Lib.hid (And.intro hown (show Ext wr w10 from (Below.trans (Ext.trans Y8.out.2 O9.out.2) hBe))); clear hown hBe) | (at_builtin; refine wpList_append_src rfl (.tmp 76) (.tmp 77) 42 (by rfl) w10.heap.size 46 i46 (.agg #[.int .i64 0, .slice none 0 0, .bool false]) 3 40 und42 hi46 hz460 hz461 hz462 rfl (by omega) w10.heap.size 0 0 [] (by rfl) (row_empty w10 46 3) _ k1 d1 (xs.flatMap PX.cells) (by rfl) (owns_ext O1.out.1 (E16.out.trans (Y10.out.2.alloc (.cells #[] 46)))).1 O1.out.2.2.2.1 (own_news (owns_ext O1.out.1 (E16.out.trans (Y10.out.2.alloc _)))) (flat_one _) (by unfold maxLen; omega) (by omega) (by simp) ?_; intro g11 c11 w11 hown hBe; (try simp only [Nat.zero_add, List.nil_append] at hown); have Y11 := Lib.hid (And.intro hown (show Ext w10 w11 from ((Below.refl _ w10).alloc (Nat.le_refl _) _).trans hBe)); clear hown hBe) | (at_builtin; refine wpList_append_src rfl (.tmp 78) (.tmp 79) 42 (by rfl) w10.heap.size 46 i46 (.agg #[.int .i64 0, .slice none 0 0, .bool false]) 3 40 und42 hi46 hz460 hz461 hz462 rfl (by omega) g11 c11 k1 (xs.flatMap PX.cells) (by rfl) Y11.out.1 B2 k2 d2 ((ys.map (PX.shift n1)).flatMap PX.cells) (by rfl) own6.out.1 O2.out.2.2.2.1 (own_news (owns_ext own6.out (Y10.out.2.trans Y11.out.2))) (flat_one _) (by unfold maxLen; omega) (by omega) (Below.size Y11.out.2) ?_; intro g12 c12 w12 hown hBe; (try simp only [Nat.zero_add, List.nil_append] at hown); have Y12 := Lib.hid (And.intro hown (show Ext w10 w12 from (Below.trans Y11.out.2 hBe))); clear hown hBe))
        have E12 : Hid (Ext wr w12) := Lib.hid (Ext.trans Y10.out.2 Y12.out.2)
        refine (rpieces_src B5 _ (k1 + k2) d5 c12 w4.heap.size w10.heap.size zs (xs ++ ys.map (PX.shift n1)) w12 HK5.out (by rw [List.length_append, List.length_map, HK1.out, HK2.out]) (by omega)
          (by rw [O5.out.2.2.1, HP.out, List.map_append, O1.out.2.2.1, List.map_map, ← O2.out.2.2.1, List.map_map]; rfl)
          (owns_ext own5'.out E12.out) (fun x hx => owns_ext (hz6.out x hx) E12.out) (by rw [List.flatMap_append]; exact Y12.out.1)
          (fun y hy => (List.mem_append.1 hy).elim (fun h => owns_ext (O1.out.2.1 y h) (E16.out.trans E12.out)) (fun h => by obtain ⟨y', hy', rfl⟩ := List.mem_map.1 h; exact PX.shift_owns n1 (owns_ext (hy6.out y' hy') E12.out)))
          (fun x hx z hz => hzab z (pcs_byte _ _ _ x.d (by have : x.d ∈ zs.map PX.d := List.mem_map_of_mem hx; rw [O5.out.2.2.1] at this; exact this) z hz))).mono ?_
        rintro e w13 ⟨rfl, hE13⟩
        have T13 := Lib.hid ((T6.out.trans E12.out).trans hE13)
        have E13 := Lib.hid ((show Ext w10 w12 from Y12.out.2).trans hE13)
        clear hE13
        go_wp2_with (first | (at_builtin; refine wpList_append_srcg (by rfl) (.tmp 83) (.tmp 84) 30 (by rfl) w13.heap.size 5 i5 (.int .u8 0) 1 1 und30 hi5 hz50 hz51 hz52 rfl (by omega) w13.heap.size 0 0 [] (by rfl) (row_empty w13 5 1) A1 n1 c1 (za.map (Value.int .u8)) (by rfl) (by simp [HA.out.len]) HA.out.nil ((HA.out.ext (T13.out.alloc _)).news) (map_one za) (by unfold maxLen; omega) (by omega) (by simp) ?_; intro g14 c14 w14 hown hBe; (try simp only [Nat.zero_add, List.nil_append] at hown); have Y14 := Lib.hid (And.intro hown (show Ext w13 w14 from ((Below.refl _ w13).alloc (Nat.le_refl _) _).trans hBe)); clear hown hBe) | (at_builtin; refine wpList_append_srcg (by rfl) (.tmp 85) (.tmp 86) 30 (by rfl) w13.heap.size 5 i5 (.int .u8 0) 1 1 und30 hi5 hz50 hz51 hz52 rfl (by omega) g14 c14 n1 (za.map (Value.int .u8)) (by rfl) Y14.out.1 A2 n2 c2 (zb.map (Value.int .u8)) (by rfl) (by simp [HB.out.len]) HB.out.nil ((HB.out.ext (T13.out.trans Y14.out.2)).news) (map_one zb) (by unfold maxLen; omega) (by omega) (Below.size Y14.out.2) ?_; intro g15 c15 w15 hown hBe; (try simp only [Nat.zero_add, List.nil_append] at hown); have Y15 := Lib.hid (And.intro hown (show Ext w13 w15 from Below.trans Y14.out.2 hBe)); clear hown hBe))
        have S15 : Hid (Src w15 (some ⟨g15, 0, none⟩) (n1 + n2) c15 (za ++ zb)) := Lib.hid (src_of_own (by rw [List.map_append]; exact Y15.out.1) hzab)
        refine (recs_src _ _ _ (za ++ zb) _ S15.out (by omega)).mono ?_
        rintro e w16 ⟨B16, k16, d16, rfl, hB16, -, hk16, own16, hE16⟩
        have hrp := recs_parts za zb (fun x hx => (HA.out.byte x hx).1) hlast.out
        have e16 : k16 = k7 + k9 := by
          rw [← hk16, hrp, List.length_append, HK7.out, HK9.out]
        subst e16
        have O16 := Lib.hid (And.intro hk16 (And.intro own16 (And.intro hE16 hrp)))
        clear hB16 hk16 own16 hE16 hrp
        go_wp2_with fail
        refine (rrecs_src B16 _ (k7 + k9) d16 c10 w15.heap.size wr.heap.size (recsD (za ++ zb)) w16 O16.out.1 (by omega) (recsD_inside _ hzab) O16.out.2.1 (by
          rw [O16.out.2.2.2, List.flatMap_append]
          exact owns_ext Y10.out.1 ((E13.out.trans Y15.out.2).trans O16.out.2.2.1))).mono ?_
        rintro e w17 ⟨rfl, hE17⟩
        have T17 := Lib.hid (((T13.out.trans Y15.out.2).trans O16.out.2.2.1).trans hE17)
        clear hE17
        go_wp2_with fail
        refine (wakes06 _).mono ?_
        rintro e w18 ⟨rfl, hE18⟩
        have T18 := Lib.hid (T17.out.trans hE18)
        clear hE18
        go_wp2
        go_ret
        exact ⟨rfl, T18.out⟩
  · rw [hxc] at hcell
    clear hl1 hxc
    go_wp2_with fail
    refine (wakes06 _).mono ?_
    rintro e w9 ⟨rfl, hE⟩
    have T9 := Lib.hid (T1.out.trans hE)
    clear hE
    go_wp2
    go_ret
    exact ⟨rfl, T9.out⟩

theorem parts_walk (A1 A2 : Option Addr) (n1 c1 n2 c2 : Nat) (za zb : List Int) (w : World) (hA : Src w A1 n1 c1 za) (hB : Src w A2 n2 c2 zb) :
    Calls Try.prog 6 #[.slice A1 n1 c1, .slice A2 n2 c2] w fun e w' => e = .returned (.bool true) ∧ Ext w w' := by
  by_cases h : 1000 < n1 ∨ 1000 < n2
  · exact parts_long A1 A2 n1 c1 n2 c2 w h
  · exact parts_core A1 A2 n1 c1 n2 c2 za zb w hA hB (by omega) (by omega)

end Go.Proofs.Ytcbneobdelbhlaa
