/-
  SplitWhole's walk.
-/
import Derived.Test.YtcbneobdelbhlaaSn
namespace Go.Proofs.Ytcbneobdelbhlaa
open Go.RowKit Go.Shelf

set_option maxHeartbeats 1000000 in
set_option maxRecDepth 100000 in
theorem swhole_long (A : Option Addr) (n cap : Nat) (w : World) (hn : 2000 < n) :
    Calls Try.prog 5 #[.slice A n cap] w fun e w' => e = .returned (.bool true) ∧ Ext w w' := by
  have h1 : (2000 : Int) < (n : Int) := by omega
  clear hn
  go_enter Try.func5, Try.ntmps5
  go_wp2_with (go_at_call 19; refine (wakes06 _).mono ?_; rintro e w1 ⟨rfl, hB⟩)
  go_ret
  exact ⟨rfl, hB⟩

theorem pcs_255 : ∀ (f a : Nat) (zs : List Int), (∀ z ∈ zs, z ≤ 255) → ∀ d ∈ pcs f a zs, d.bytes.length ≤ 255
  | 0, _, _, _, d, h => by simp [pcs] at h
  | _ + 1, _, [], _, d, h => by simp [pcs] at h
  | f + 1, a, c :: rest, hz, d, h => by
    rw [pcs_succ] at h
    rcases List.mem_cons.1 h with rfl | h
    · have := hz c (by simp)
      simp only [List.length_take]
      omega
    · exact pcs_255 f _ _ (fun z hz' => hz z (List.mem_cons_of_mem _ (List.mem_of_mem_drop hz'))) d h

set_option maxHeartbeats 8000000 in
set_option maxRecDepth 100000 in
theorem swhole_core (b off n cap : Nat) (zs : List Int) (w : World) (hn : zs.length = n) (hn0 : 0 < n) (hm : n ≤ 2000) (hcap : n ≤ cap) (hr : Row w b off zs)
    (H20 : Calls Try.prog 20 #[.slice (some ⟨b, off, none⟩) n cap] w fun e w' => ∃ (gl k cl : Nat) (xs : List PX), e = .returned (.slice (some ⟨gl, 0, none⟩) k cl) ∧ PiecesAt w' w.heap.size (.slice (some ⟨gl, 0, none⟩) k cl) xs ∧ xs.map PX.d = pieces zs ∧ xs.length = k ∧ Ext w w') :
    Calls Try.prog 5 #[.slice (some ⟨b, off, none⟩) n cap] w fun e w' => e = .returned (.bool true) ∧ Ext w w' := by
  obtain ⟨i0, hi, hz0, hz1, hz2⟩ := info_parts info30
  have K20 := Lib.hid H20
  have HR := Lib.hid hr
  have HN := Lib.hid hn
  have p2 : (n : Int) ≤ 2000 := by omega
  clear H20 hr hn
  go_enter Try.func5, Try.ntmps5
  go_wp2_with fail
  refine K20.out.mono ?_
  rintro e w1 ⟨gl, k, cl, xs, rfl, hP, hd, hk, hE⟩
  have HK := Lib.hid hk
  clear hk
  have T1 := Lib.hid hE
  have P1 := Lib.hid hP
  have HD := Lib.hid hd
  have hk5 : k ≤ 2000 := by
    have h1 := pcs_len zs.length 0 zs
    have h2 : (pieces zs).length = k := by rw [← HD.out, List.length_map, HK.out]
    unfold pieces at h2
    have := HN.out
    omega
  clear hE hP hd K20
  have p3 : (k : Int) ≤ 2000 := by omega
  go_wp2_with fail
  go_loopw [4, 5, 6] (fun vat vall vi wr => ∃ (i a m : Nat) (cs : List Value), i ≤ k ∧ vi = .int .i64 i ∧ vat = .int .i64 a ∧ a ≤ n ∧ pieces' a (zs.drop a) = (pieces zs).drop i ∧
      m = (wholes xs i).length ∧ cs = (wholes xs i).map JX.val ∧ wr.ownsRow w1.heap.size 30 1 vall m cs ∧ Ext w1 wr) (fun _ _ vi _ => k - (intOf vi).toNat)
  case atStart => exact ⟨0, 0, 0, [], Nat.zero_le _, rfl, rfl, Nat.zero_le _, rfl, rfl, rfl, World.ownsRow_nil _ _ _ _, Ext.refl w1⟩
  case round =>
    obtain ⟨i, a, m, cs, hi', rfl, rfl, ha, hpc, hmm, hcs, hown, hE⟩ := hrel
    by_cases hlt : i < k
    · obtain ⟨x, hx⟩ : ∃ x, xs[i]? = some x := ⟨xs[i]'(by rw [HK.out]; exact hlt), by simp⟩
      have hxd : (pieces zs)[i]? = some x.d := by rw [← HD.out, List.getElem?_map, hx]; rfl
      obtain ⟨c, hat, hc, hdd, hnext⟩ := piece_at hpc hxd
      have hcb : 0 ≤ c ∧ c ≤ 255 := by
        rw [← hc, List.getD_eq_getElem?_getD, List.getElem?_eq_getElem hat]
        exact HR.out.byte _ (List.getElem_mem hat)
      obtain ⟨cc, rfl⟩ := Int.eq_ofNat_of_zero_le hcb.1
      rw [Int.toNat_natCast] at hdd hnext
      rw [HN.out] at hat hdd hnext
      have hcell := (T1.out.trans hE).cell (HR.out.cell a (by rw [HN.out]; exact hat))
      rw [hc] at hcell
      obtain ⟨e0, e1, e2⟩ := (P1.out.ext hE).cell hx
      have hpl : x.d.bytes.length = min cc (n - (a + 1)) := by rw [hdd, List.length_take, List.length_drop, HN.out]
      have hlast : n - (a + 1) < cc → i + 1 = k := fun h => by
        rw [Nat.min_eq_right (by omega)] at hnext
        have := pieces_last hnext (by rw [HN.out]; omega)
        have h2 : (pieces zs).length = k := by rw [← HD.out, List.length_map, HK.out]
        omega
      have hcut : x.d.cut = decide (n - (a + 1) < cc) := by rw [hdd]
      have hat2 : x.d.at_ = a := by rw [hdd]
      have hby : x.d.bytes = (zs.drop (a + 1)).take cc := by rw [hdd]
      have hV1 := fun W (h : Ext wr W) => PX.conv (owns_ext (P1.out.own x (List.mem_of_getElem? hx)) (hE.trans h)) (fun z hz => HR.out.byte z (by rw [hby] at hz; exact List.mem_of_mem_drop (List.mem_of_mem_take hz)))
      have hV2 := fun W (h : Ext wr W) => Conv.of_row (cap := cap - (a + 1)) (((T1.out.trans hE).trans h).row (row_sub HR.out (a + 1) cc)) (by rw [← hby])
      rw [← hby] at hV2
      rw [hat2] at e0
      have hws : (wholes xs (i + 1)).map JX.val = (wholes xs i).map JX.val ++ (if x.d.cut then [] else [.slice (some ⟨x.g, 0, none⟩) x.d.bytes.length x.cap]) := by
        rw [wholes_succ hx, List.map_append]
        cases x.d.cut <;> rfl
      have hwl : (wholes xs (i + 1)).length = (wholes xs i).length + (if x.d.cut then 0 else 1) := by
        rw [wholes_succ hx, List.length_append]
        cases x.d.cut <;> rfl
      have lb : b < wr.heap.size := by obtain ⟨o, ho, _⟩ := cells_of_cell hcell; exact heap_lt ho
      have lg : gl < wr.heap.size := by obtain ⟨o, ho, _⟩ := cells_of_cell e0; exact heap_lt ho
      have hc255 : cc ≤ 255 := by have := hcb.2; omega
      have X := Lib.hid (And.intro hmm (And.intro hcs (And.intro hown (And.intro hE (And.intro hnext (And.intro hws hwl))))))
      have HV1 := Lib.hid hV1
      have HV2 := Lib.hid hV2
      have HLa := Lib.hid hlast
      clear hmm hcs hown hE hnext hws hwl hV1 hV2 hlast hpc hxd hx hdd hby hat2 hc hcb
      generalize x.g = g at *
      generalize x.cap = xc at *
      generalize x.d.cut = ct at *
      generalize hyy : x.d.bytes = ys at *
      have HYY := Lib.hid hyy
      clear hyy
      generalize hpp : ys.length = p at *
      have HPP := Lib.hid hpp
      clear hpp
      generalize hqq : n - (a + 1) = q at *
      have hpq : p ≤ q := by omega
      have haq : a + 1 + q = n := by omega
      have HQQ := Lib.hid hqq
      have HAQ := Lib.hid haq
      have y0 : (0 : Int) ≤ (a : Int) := by omega
      have y1 : (a : Int) < (n : Int) := by omega
      have y2 : IntKind.i64.wrap ((a : Int) + 1) = (a : Int) + 1 := IntWalk.i64_in _ (by omega)
      have y3 : IntKind.i64.wrap ((a : Int) + 1 + (p : Int)) = (a : Int) + 1 + (p : Int) := IntWalk.i64_in _ (by omega)
      have y4 : (a : Int) + 1 + (p : Int) ≤ (n : Int) := by omega
      have y5 : (0 : Int) ≤ (a : Int) + 1 := by omega
      have y6 : ((a : Int) + 1).toNat = a + 1 := by omega
      have y7 : ((a : Int) + 1 + (p : Int)).toNat = a + 1 + p := by omega
      have y8 : (a : Int) + 1 ≤ (a : Int) + 1 + (p : Int) := by omega
      have y9 : (a : Int) + 1 + (p : Int) ≤ (cap : Int) := by omega
      have ya : IntKind.i64.wrap (cc : Int) = (cc : Int) := IntWalk.i64_in _ (by omega)
      have yb : a + 1 + p - (a + 1) = p := by omega
      have f1 : decide (n ≤ a) = false := by simp; omega
      have f2 : decide ((n : Int) < (a : Int) + 1 + (p : Int)) = false := by simp; omega
      have i0' : (0 : Int) ≤ (i : Int) := by omega
      have i1' : (i : Int) < (k : Int) := by omega
      have HPL := Lib.hid hpl
      clear hqq haq
      clear hpl
      have HMQ : Hid (min cc q = p) := Lib.hid HPL.out.symm
      by_cases hca : cap = a + 1
      · have hq0 : q = 0 := by have := HAQ.out; omega
        have hp0 : p = 0 := by omega
        have hy0 : ys = [] := List.eq_nil_of_length_eq_zero (by rw [HPP.out]; exact hp0)
        subst hy0
        subst hp0
        clear y3 y4 y7 y8 y9 yb f2 HV1 HV2
        have f2 : decide ((n : Int) < (a : Int) + 1) = false := by simp; omega
        subst hca
        by_cases hct : q < cc
        · have hik := HLa.out hct
          rw [show decide (q < cc) = true by simp; omega] at hcut
          subst hcut
          have g1 : ((i : Int) != (k : Int) - 1) = false := by simp; omega
          have g2 : IntKind.i64.wrap ((k : Int) - 1) = (k : Int) - 1 := IntWalk.i64_in _ (by omega)
          have g3 : decide ((0 : Int) < (cc : Int)) = true := by simp; omega
          have g4 : decide (0 < cc) = true := by simp; omega
          have g5 : (0 : Int) < (cc : Int) := by omega
          have HIK := Lib.hid hik
          clear hct hik hq0
          have H21 : Hid (∀ z, Calls Try.prog 21 #[.slice (some ⟨g, 0, none⟩) 0 xc, .slice (some ⟨b, off, none⟩) 0 0] (mix (wr.alloc (.cells #[.int .i64 a, .slice (some ⟨g, 0, none⟩) 0 xc, .bool true] 46)) z) fun e w' => e = .returned (.bool true) ∧ mix (wr.alloc (.cells #[.int .i64 a, .slice (some ⟨g, 0, none⟩) 0 xc, .bool true] 46)) z = w') :=
            Lib.hid (fun z => same_true _ _ _ _ _ _ [] _ (Conv.zero _ _ _) (Conv.zero _ _ _))
          go_wp2_with fail
          refine wp_region_mix (by kernel_rfl) (by kernel_rfl) ?_
          repeat (first | go_big_quiet_step ((go_at_call 21; with_reducible exact Calls.mix_same (H21.out _))) | quiet_step ((go_at_call 21; with_reducible exact Calls.mix_same (H21.out _))))
          refine wpQuiet_nil ?_
          rintro _ ⟨xx, rfl⟩
          have E6 : Hid (Ext wr (mix (wr.alloc (.cells #[.int .i64 a, .slice (some ⟨g, 0, none⟩) 0 xc, .bool true] 46)) xx)) := Lib.hid (((Ext.refl wr).alloc _).trans (mix_below _ _))
          have B6 : Hid ((mix (wr.alloc (.cells #[.int .i64 a, .slice (some ⟨g, 0, none⟩) 0 xc, .bool true] 46)) xx).heap[wr.heap.size]? = some (.cells #[.int .i64 a, .slice (some ⟨g, 0, none⟩) 0 xc, .bool true] 46 (0, 0))) := Lib.hid (Ext.heap (mix_below _ _) (World.alloc_heap_new wr _))
          clear H21
          generalize mix (wr.alloc (.cells #[.int .i64 a, .slice (some ⟨g, 0, none⟩) 0 xc, .bool true] 46)) xx = W6 at *
          obtain ⟨m0, m1, m2⟩ := row3 B6.out
          have hc6 := E6.out.cell hcell
          clear e0 e1 e2 hcell
          go_wp2
          refine wp_region_mix (by kernel_rfl) (by kernel_rfl) ?_
          repeat (first | go_big_quiet_step (fail) | quiet_step (fail))
          refine wpQuiet_nil ?_
          rintro _ ⟨x2, rfl⟩
          have E8 : Hid (Ext wr (mix W6 x2)) := Lib.hid (E6.out.trans (mix_below _ _))
          have B8 : Hid ((mix W6 x2).heap[wr.heap.size]? = some (.cells #[.int .i64 a, .slice (some ⟨g, 0, none⟩) 0 xc, .bool true] 46 (0, 0))) := Lib.hid (Ext.heap (mix_below _ _) B6.out)
          generalize mix W6 x2 = W8 at *
          clear m0 m1 m2 hc6 E6 B6
          obtain ⟨m0, m1, m2⟩ := row3 B8.out
          have hm5 : m ≤ 2000 := by have := wholes_len xs i; have := X.out.1; omega
          go_wp2
          obtain ⟨hmm, hcs, hown, hE, hnext, hws, hwl⟩ := X.out
          refine ⟨⟨i + 1, a + 1 + 0, m, cs, by omega, by go_num, by first | rfl | (congr 1; omega), by omega, ?_, ?_, ?_, owns_ext hown E8.out, hE.trans E8.out⟩, by simp [intOf]; omega⟩
          · rw [HMQ.out] at hnext; exact hnext
          · rw [hwl, ← hmm]; simp
          · rw [hws, ← hcs]; simp
        · have hpc : cc = 0 := by omega
          rw [show decide (q < cc) = false by simp; omega] at hcut
          subst hcut
          subst hpc
          have g6 : ((0 : Nat) : Int) = 0 := rfl
          clear hct hq0
          have H21 : Hid (∀ z, Calls Try.prog 21 #[.slice (some ⟨g, 0, none⟩) 0 xc, .slice (some ⟨b, off, none⟩) 0 0] (mix (wr.alloc (.cells #[.int .i64 a, .slice (some ⟨g, 0, none⟩) 0 xc, .bool false] 46)) z) fun e w' => e = .returned (.bool true) ∧ mix (wr.alloc (.cells #[.int .i64 a, .slice (some ⟨g, 0, none⟩) 0 xc, .bool false] 46)) z = w') :=
            Lib.hid (fun z => same_true _ _ _ _ _ _ [] _ (Conv.zero _ _ _) (Conv.zero _ _ _))
          go_wp2_with fail
          refine wp_region_mix (by kernel_rfl) (by kernel_rfl) ?_
          repeat (first | go_big_quiet_step ((go_at_call 21; with_reducible exact Calls.mix_same (H21.out _))) | quiet_step ((go_at_call 21; with_reducible exact Calls.mix_same (H21.out _))))
          refine wpQuiet_nil ?_
          rintro _ ⟨xx, rfl⟩
          have E6 : Hid (Ext wr (mix (wr.alloc (.cells #[.int .i64 a, .slice (some ⟨g, 0, none⟩) 0 xc, .bool false] 46)) xx)) := Lib.hid (((Ext.refl wr).alloc _).trans (mix_below _ _))
          have B6 : Hid ((mix (wr.alloc (.cells #[.int .i64 a, .slice (some ⟨g, 0, none⟩) 0 xc, .bool false] 46)) xx).heap[wr.heap.size]? = some (.cells #[.int .i64 a, .slice (some ⟨g, 0, none⟩) 0 xc, .bool false] 46 (0, 0))) := Lib.hid (Ext.heap (mix_below _ _) (World.alloc_heap_new wr _))
          clear H21
          generalize mix (wr.alloc (.cells #[.int .i64 a, .slice (some ⟨g, 0, none⟩) 0 xc, .bool false] 46)) xx = W6 at *
          obtain ⟨m0, m1, m2⟩ := row3 B6.out
          have hc6 := E6.out.cell hcell
          clear e0 e1 e2 hcell
          go_wp2
          refine wp_region_mix (by kernel_rfl) (by kernel_rfl) ?_
          repeat (first | go_big_quiet_step (fail) | quiet_step (fail))
          refine wpQuiet_nil ?_
          rintro _ ⟨x2, rfl⟩
          have E8 : Hid (Ext wr (mix W6 x2)) := Lib.hid (E6.out.trans (mix_below _ _))
          have B8 : Hid ((mix W6 x2).heap[wr.heap.size]? = some (.cells #[.int .i64 a, .slice (some ⟨g, 0, none⟩) 0 xc, .bool false] 46 (0, 0))) := Lib.hid (Ext.heap (mix_below _ _) B6.out)
          generalize mix W6 x2 = W8 at *
          clear m0 m1 m2 hc6 E6 B6
          obtain ⟨m0, m1, m2⟩ := row3 B8.out
          have hm5 : m ≤ 2000 := by have := wholes_len xs i; have := X.out.1; omega
          go_wp2_with (at_builtin; refine wpList_append_own _ rfl (.tmp 111) (.tmp 114) 44 (by rfl) w1.heap.size 30 i0 (.slice none 0 0) 1 24 und44 hi hz0 hz1 hz2 rfl (by omega) u5 m cs (by rfl) (owns_ext X.out.2.2.1 (E8.out.alloc _)) ⟨W8.heap.size, 0, none⟩ 1 1 [.slice (some ⟨g, 0, none⟩) 0 xc] (by rfl) (by rfl) (news_new W8 30 [.slice (some ⟨g, 0, none⟩) 0 xc]) (by intro u hu; simp at hu; subst hu; rfl) (by unfold maxLen; omega) (by omega) (by have h1 := Below.size X.out.2.2.2.1; have h2 := Below.size E8.out; simp; omega) ?_; intro v9 w9 hown9 hg9 hnil9; obtain ⟨g9, c9, rfl, _, _⟩ := hown9.form (by omega); have E9 : Ext w1 w9 := Below.grown ((X.out.2.2.2.1.trans E8.out).alloc _) hg9 (by have h1 := Below.size X.out.2.2.2.1; have h2 := Below.size E8.out; simp; omega) (fun q hq => (X.out.2.2.1.lt q hq).1); have Y := Lib.hid (And.intro hown9 E9); clear hown9 hg9 hnil9 E9)
          obtain ⟨hmm, hcs, hown, hE, hnext, hws, hwl⟩ := X.out
          refine ⟨⟨i + 1, a + 1 + 0, m + 1, _, by omega, by go_num, by first | rfl | (congr 1; omega), by omega, ?_, ?_, ?_, Y.out.1, Y.out.2⟩, by simp [intOf]; omega⟩
          · rw [HMQ.out] at hnext; exact hnext
          · rw [hwl, ← hmm]; simp
          · rw [hws, ← hcs]; simp
      · by_cases hct : q < cc
        · have hpq' : p = q := by have := HPL.out; omega
          have hik := HLa.out hct
          rw [show decide (q < cc) = true by simp; omega] at hcut
          subst hcut
          have g1 : ((i : Int) != (k : Int) - 1) = false := by simp; omega
          have g2 : IntKind.i64.wrap ((k : Int) - 1) = (k : Int) - 1 := IntWalk.i64_in _ (by omega)
          have g3 : decide ((p : Int) < (cc : Int)) = true := by simp; omega
          have g4 : decide (p < cc) = true := by simp; omega
          have g5 : (p : Int) < (cc : Int) := by omega
          have HIK := Lib.hid hik
          clear hct hik hpq'
          have H21 : Hid (∀ z, Calls Try.prog 21 #[.slice (some ⟨g, 0, none⟩) p xc, .slice (some ⟨b, off + (a + 1), none⟩) p (cap - (a + 1))] (mix (wr.alloc (.cells #[.int .i64 a, .slice (some ⟨g, 0, none⟩) p xc, .bool true] 46)) z) fun e w' => e = .returned (.bool true) ∧ mix (wr.alloc (.cells #[.int .i64 a, .slice (some ⟨g, 0, none⟩) p xc, .bool true] 46)) z = w') :=
            Lib.hid (fun z => same_true _ _ _ _ _ _ ys _ (HV1.out _ (((Ext.refl wr).alloc _).trans (mix_below _ _))) (HV2.out _ (((Ext.refl wr).alloc _).trans (mix_below _ _))))
          go_wp2_with fail
          refine wp_region_mix (by kernel_rfl) (by kernel_rfl) ?_
          repeat (first | go_big_quiet_step ((go_at_call 21; with_reducible exact Calls.mix_same (H21.out _))) | quiet_step ((go_at_call 21; with_reducible exact Calls.mix_same (H21.out _))))
          refine wpQuiet_nil ?_
          rintro _ ⟨xx, rfl⟩
          have E6 : Hid (Ext wr (mix (wr.alloc (.cells #[.int .i64 a, .slice (some ⟨g, 0, none⟩) p xc, .bool true] 46)) xx)) := Lib.hid (((Ext.refl wr).alloc _).trans (mix_below _ _))
          have B6 : Hid ((mix (wr.alloc (.cells #[.int .i64 a, .slice (some ⟨g, 0, none⟩) p xc, .bool true] 46)) xx).heap[wr.heap.size]? = some (.cells #[.int .i64 a, .slice (some ⟨g, 0, none⟩) p xc, .bool true] 46 (0, 0))) := Lib.hid (Ext.heap (mix_below _ _) (World.alloc_heap_new wr _))
          clear H21
          generalize mix (wr.alloc (.cells #[.int .i64 a, .slice (some ⟨g, 0, none⟩) p xc, .bool true] 46)) xx = W6 at *
          obtain ⟨m0, m1, m2⟩ := row3 B6.out
          have hc6 := E6.out.cell hcell
          clear e0 e1 e2 hcell
          go_wp2
          refine wp_region_mix (by kernel_rfl) (by kernel_rfl) ?_
          repeat (first | go_big_quiet_step (fail) | quiet_step (fail))
          refine wpQuiet_nil ?_
          rintro _ ⟨x2, rfl⟩
          have E8 : Hid (Ext wr (mix W6 x2)) := Lib.hid (E6.out.trans (mix_below _ _))
          have B8 : Hid ((mix W6 x2).heap[wr.heap.size]? = some (.cells #[.int .i64 a, .slice (some ⟨g, 0, none⟩) p xc, .bool true] 46 (0, 0))) := Lib.hid (Ext.heap (mix_below _ _) B6.out)
          generalize mix W6 x2 = W8 at *
          clear m0 m1 m2 hc6 E6 B6
          obtain ⟨m0, m1, m2⟩ := row3 B8.out
          have hm5 : m ≤ 2000 := by have := wholes_len xs i; have := X.out.1; omega
          go_wp2
          obtain ⟨hmm, hcs, hown, hE, hnext, hws, hwl⟩ := X.out
          refine ⟨⟨i + 1, a + 1 + p, m, cs, by omega, by go_num, by first | rfl | (congr 1; omega), by omega, ?_, ?_, ?_, owns_ext hown E8.out, hE.trans E8.out⟩, by simp [intOf]; omega⟩
          · rw [HMQ.out] at hnext; exact hnext
          · rw [hwl, ← hmm]; simp
          · rw [hws, ← hcs]; simp
        · have hpc : p = cc := by have := HPL.out; omega
          rw [show decide (q < cc) = false by simp; omega] at hcut
          subst hcut
          subst hpc
          have H21 : Hid (∀ z, Calls Try.prog 21 #[.slice (some ⟨g, 0, none⟩) p xc, .slice (some ⟨b, off + (a + 1), none⟩) p (cap - (a + 1))] (mix (wr.alloc (.cells #[.int .i64 a, .slice (some ⟨g, 0, none⟩) p xc, .bool false] 46)) z) fun e w' => e = .returned (.bool true) ∧ mix (wr.alloc (.cells #[.int .i64 a, .slice (some ⟨g, 0, none⟩) p xc, .bool false] 46)) z = w') :=
            Lib.hid (fun z => same_true _ _ _ _ _ _ ys _ (HV1.out _ (((Ext.refl wr).alloc _).trans (mix_below _ _))) (HV2.out _ (((Ext.refl wr).alloc _).trans (mix_below _ _))))
          go_wp2_with fail
          refine wp_region_mix (by kernel_rfl) (by kernel_rfl) ?_
          repeat (first | go_big_quiet_step ((go_at_call 21; with_reducible exact Calls.mix_same (H21.out _))) | quiet_step ((go_at_call 21; with_reducible exact Calls.mix_same (H21.out _))))
          refine wpQuiet_nil ?_
          rintro _ ⟨xx, rfl⟩
          have E6 : Hid (Ext wr (mix (wr.alloc (.cells #[.int .i64 a, .slice (some ⟨g, 0, none⟩) p xc, .bool false] 46)) xx)) := Lib.hid (((Ext.refl wr).alloc _).trans (mix_below _ _))
          have B6 : Hid ((mix (wr.alloc (.cells #[.int .i64 a, .slice (some ⟨g, 0, none⟩) p xc, .bool false] 46)) xx).heap[wr.heap.size]? = some (.cells #[.int .i64 a, .slice (some ⟨g, 0, none⟩) p xc, .bool false] 46 (0, 0))) := Lib.hid (Ext.heap (mix_below _ _) (World.alloc_heap_new wr _))
          clear H21
          generalize mix (wr.alloc (.cells #[.int .i64 a, .slice (some ⟨g, 0, none⟩) p xc, .bool false] 46)) xx = W6 at *
          obtain ⟨m0, m1, m2⟩ := row3 B6.out
          have hc6 := E6.out.cell hcell
          clear e0 e1 e2 hcell
          go_wp2
          refine wp_region_mix (by kernel_rfl) (by kernel_rfl) ?_
          repeat (first | go_big_quiet_step (fail) | quiet_step (fail))
          refine wpQuiet_nil ?_
          rintro _ ⟨x2, rfl⟩
          have E8 : Hid (Ext wr (mix W6 x2)) := Lib.hid (E6.out.trans (mix_below _ _))
          have B8 : Hid ((mix W6 x2).heap[wr.heap.size]? = some (.cells #[.int .i64 a, .slice (some ⟨g, 0, none⟩) p xc, .bool false] 46 (0, 0))) := Lib.hid (Ext.heap (mix_below _ _) B6.out)
          generalize mix W6 x2 = W8 at *
          clear m0 m1 m2 hc6 E6 B6
          obtain ⟨m0, m1, m2⟩ := row3 B8.out
          have hm5 : m ≤ 2000 := by have := wholes_len xs i; have := X.out.1; omega
          go_wp2_with (at_builtin; refine wpList_append_own _ rfl (.tmp 111) (.tmp 114) 44 (by rfl) w1.heap.size 30 i0 (.slice none 0 0) 1 24 und44 hi hz0 hz1 hz2 rfl (by omega) u5 m cs (by rfl) (owns_ext X.out.2.2.1 (E8.out.alloc _)) ⟨W8.heap.size, 0, none⟩ 1 1 [.slice (some ⟨g, 0, none⟩) p xc] (by rfl) (by rfl) (news_new W8 30 [.slice (some ⟨g, 0, none⟩) p xc]) (by intro u hu; simp at hu; subst hu; rfl) (by unfold maxLen; omega) (by omega) (by have h1 := Below.size X.out.2.2.2.1; have h2 := Below.size E8.out; simp; omega) ?_; intro v9 w9 hown9 hg9 hnil9; obtain ⟨g9, c9, rfl, _, _⟩ := hown9.form (by omega); have E9 : Ext w1 w9 := Below.grown ((X.out.2.2.2.1.trans E8.out).alloc _) hg9 (by have h1 := Below.size X.out.2.2.2.1; have h2 := Below.size E8.out; simp; omega) (fun q hq => (X.out.2.2.1.lt q hq).1); have Y := Lib.hid (And.intro hown9 E9); clear hown9 hg9 hnil9 E9)
          obtain ⟨hmm, hcs, hown, hE, hnext, hws, hwl⟩ := X.out
          refine ⟨⟨i + 1, a + 1 + p, m + 1, _, by omega, by go_num, by first | rfl | (congr 1; omega), by omega, ?_, ?_, ?_, Y.out.1, Y.out.2⟩, by simp [intOf]; omega⟩
          · rw [HMQ.out] at hnext; exact hnext
          · rw [hwl, ← hmm]; simp
          · rw [hws, ← hcs]; simp
    · have e : i = k := by omega
      subst e
      have hlen : (pieces zs).length = i := by rw [← HD.out, List.length_map, HK.out]
      have ean : a = n := by
        have := pieces_end hpc (by omega) (by rw [HN.out]; exact ha)
        rw [HN.out] at this
        exact this
      have hjd : joinD ((wholes xs i).map JX.bytes) <+: zs := by
        have e2 := wholes_bytes xs
        rw [HK.out] at e2
        rw [e2, HD.out]
        exact join_pieces zs.length 0 zs (Nat.le_refl _) (fun x hx => (HR.out.byte x hx).1)
      have hJ := join_own (base := w1.heap.size) (v := u5) (wholes xs i) wr (by have := wholes_len xs i; omega) (fun y hy => by
          obtain ⟨x, hx, rfl⟩ := wholes_mem hy
          exact pcs_255 _ _ _ (fun z hz => (HR.out.byte z hz).2) x.d (by have : x.d ∈ xs.map PX.d := List.mem_map_of_mem hx; rw [HD.out] at this; exact this)) (by rw [← hmm, ← hcs]; exact hown) (fun y hy => by
          obtain ⟨x, hx, rfl⟩ := wholes_mem hy
          exact .inr ⟨x.g, 0, rfl, (row_of_own ((P1.out.ext hE).own x hx) (fun z hz => HR.out.byte z (pcs_byte _ _ _ x.d (by have : x.d ∈ xs.map PX.d := List.mem_map_of_mem hx; rw [HD.out] at this; exact this) z hz))).1⟩) (fun y hy z hz => by
          obtain ⟨x, hx, rfl⟩ := wholes_mem hy
          exact HR.out.byte z (pcs_byte _ _ _ x.d (by have : x.d ∈ xs.map PX.d := List.mem_map_of_mem hx; rw [HD.out] at this; exact this) z hz))
      generalize hjj : joinD ((wholes xs i).map JX.bytes) = jd at *
      have hjl : jd.length ≤ n := by rw [← HN.out]; exact hjd.length_le
      have htake : (zs.drop 0).take jd.length = jd := by rw [List.drop_zero]; exact (List.prefix_iff_eq_take.1 hjd).symm
      have HV := Lib.hid (fun W (h : Ext w W) => Conv.of_row (cap := cap) (h.row (row_sub HR.out 0 jd.length)) (congrArg List.length htake))
      rw [htake, Nat.add_zero] at HV
      have KJ := Lib.hid hJ
      have HE := Lib.hid hE
      clear hJ hE hown hcs hmm hjd htake hjj hpc hlen
      subst ean
      generalize jd.length = jl at *
      have q1 : (jl : Int) ≤ (a : Int) := by omega
      have q2 : (jl : Int) ≤ (cap : Int) := by omega
      have q3 : (0 : Int) ≤ (jl : Int) := by omega
      go_wp2_with fail
      refine KJ.out.mono ?_
      rintro e w5 ⟨B, c, rfl, hcv, hE5⟩
      have T5 : Hid (Ext w w5) := Lib.hid ((T1.out.trans HE.out).trans hE5)
      have HC := Lib.hid hcv
      clear hcv hE5
      go_wp2_with fail
      refine (same_true _ _ _ _ _ _ jd _ (HC.out _ (Ext.refl w5)) (HV.out _ T5.out)).mono ?_
      rintro e w6 ⟨rfl, rfl⟩
      go_wp2_with fail
      refine (wakes06 _).mono ?_
      rintro e w7 ⟨rfl, hE7⟩
      have T7 : Hid (Ext w w7) := Lib.hid (T5.out.trans hE7)
      clear hE7
      go_wp2
      go_ret
      exact ⟨rfl, T7.out⟩

set_option maxHeartbeats 1000000 in
set_option maxRecDepth 100000 in
theorem swhole_empty (A : Option Addr) (cap : Nat) (w : World) (hA : A = none → cap = 0) :
    Calls Try.prog 5 #[.slice A 0 cap] w fun e w' => e = .returned (.bool true) ∧ Ext w w' := by
  rcases A with _ | A
  · obtain rfl := hA rfl
    clear hA
    go_enter Try.func5, Try.ntmps5
    go_wp2_with fail
    refine (all_none _ _ _).mono ?_
    rintro e w1 ⟨B, c, rfl, hE⟩
    have T1 : Hid (Ext w w1) := Lib.hid hE
    clear hE
    go_wp2_with fail
    refine wp_loop_rounds 1 ?_
    rw [rounds_succ]
    go_wp2_with fail
    refine (join_nil _).mono ?_
    rintro e w2 ⟨rfl, hE⟩
    have T2 : Hid (Ext w w2) := Lib.hid (T1.out.trans hE)
    clear hE
    go_wp2_with fail
    refine (same_true _ _ _ _ _ _ [] _ (Conv.zero _ _ _) (Conv.zero _ _ _)).mono ?_
    rintro e w3 ⟨rfl, rfl⟩
    go_wp2_with fail
    refine (wakes06 _).mono ?_
    rintro e w4 ⟨rfl, hE⟩
    have T4 : Hid (Ext w w4) := Lib.hid (T2.out.trans hE)
    clear hE
    go_wp2
    go_ret
    exact ⟨rfl, T4.out⟩
  · clear hA
    go_enter Try.func5, Try.ntmps5
    go_wp2_with fail
    refine (all_none _ _ _).mono ?_
    rintro e w1 ⟨B, c, rfl, hE⟩
    have T1 : Hid (Ext w w1) := Lib.hid hE
    clear hE
    go_wp2_with fail
    refine wp_loop_rounds 1 ?_
    rw [rounds_succ]
    go_wp2_with fail
    refine (join_nil _).mono ?_
    rintro e w2 ⟨rfl, hE⟩
    have T2 : Hid (Ext w w2) := Lib.hid (T1.out.trans hE)
    clear hE
    go_wp2_with fail
    refine (same_true _ _ _ _ _ _ [] _ (Conv.zero _ _ _) (Conv.zero _ _ _)).mono ?_
    rintro e w3 ⟨rfl, rfl⟩
    go_wp2_with fail
    refine (wakes06 _).mono ?_
    rintro e w4 ⟨rfl, hE⟩
    have T4 : Hid (Ext w w4) := Lib.hid (T2.out.trans hE)
    clear hE
    go_wp2
    go_ret
    exact ⟨rfl, T4.out⟩

theorem swhole_walk (b off cap : Nat) (zs : List Int) (w : World) (hr : Row w b off zs) (h0 : 0 < zs.length) (hcap : zs.length ≤ cap) :
    Calls Try.prog 5 #[.slice (some ⟨b, off, none⟩) zs.length cap] w fun e w' => e = .returned (.bool true) ∧ Ext w w' := by
  by_cases hn : 2000 < zs.length
  · exact swhole_long _ _ _ _ hn
  have hb : b < w.heap.size := by obtain ⟨o, ho, _⟩ := cells_of_cell (hr.cell 0 h0); exact heap_lt ho
  have HA := all_any b off zs.length cap zs w rfl (by omega) hcap hr hb
  refine swhole_core b off zs.length cap zs w rfl h0 (by omega) hcap hr (HA.mono ?_)
  rintro e w' ⟨v, rfl, xs, h1, h2, h3, h4⟩
  have hpos : 0 < xs.length := by
    have e1 : xs.length = (pieces zs).length := by rw [← h3, List.length_map]
    rw [e1]
    rcases zs with _ | ⟨c, l⟩
    · simp at h0
    · simp [pieces, pcs]
  obtain ⟨g, c, rfl, _, _⟩ := h1.form hpos
  exact ⟨g, xs.length, c, xs, rfl, ⟨h1, h2⟩, h3, rfl, h4⟩

end Go.Proofs.Ytcbneobdelbhlaa
