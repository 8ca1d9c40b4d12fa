/-
  WireOnly's walk.
-/
import Derived.Test.YtcbneobdelbhlaaWr
namespace Go.Proofs.Ytcbneobdelbhlaa
open Go.RowKit Go.Shelf

theorem rsame_zero (w : World) : Calls Try.prog 18 #[.agg #[.int .u8 0, .int .i64 0, .int .i64 0, .int .i64 0, .int .i64 0, .complex .f64 0 0, .int .i64 0, .int .i64 0], .agg #[.int .u8 0, .int .i64 0, .int .i64 0, .int .i64 0, .int .i64 0, .complex .f64 0 0, .int .i64 0, .int .i64 0]] w fun e w' => e = .returned (.bool true) ∧ Ext w w' := by
  have := rsame_rec RecD.zero RecD.zero (by decide) (by decide) w
  rw [RecD.zero_val] at this
  exact this

set_option maxHeartbeats 1000000 in
theorem only_long (A : Option Addr) (n cap : Nat) (w : World) (hn : 100 < n) : Calls Try.prog 4 #[.slice A n cap] w fun e w' => e = .returned (.bool true) ∧ Below w.heap.size w w' := by
  have h1 : (100 : Int) < (n : Int) := by omega
  clear hn
  go_enter Try.func4, Try.ntmps4
  go_wp2_with (go_at_call 14; refine (wakes05 _).mono ?_; rintro e w1 ⟨rfl, hB⟩)
  go_ret
  exact ⟨rfl, hB⟩

set_option maxHeartbeats 2000000 in
theorem only_empty (A : Option Addr) (cap : Nat) (w : World) : Calls Try.prog 4 #[.slice A 0 cap] w fun e w' => e = .returned (.bool true) ∧ Below w.heap.size w w' := by
  go_enter Try.func4, Try.ntmps4
  go_wp2_with fail
  refine (wtake_empty A cap w).mono ?_
  rintro e w1 ⟨rfl, hB⟩
  have T1 : Hid (Ext w w1) := Lib.hid hB
  clear hB
  unfold zrec
  go_wp2_with (first | (go_at_call 18; refine (rsame_zero _).mono ?_; rintro e w2 ⟨rfl, hB⟩; have T2 : Hid (Ext w w2) := Lib.hid (T1.out.trans (Ext.of1 hB)); clear hB) | (go_at_call 14; refine (wakes05 _).mono ?_; rintro e w3 ⟨rfl, hB⟩; have T3 : Hid (Ext w w3) := Lib.hid (T2.out.trans hB); clear hB))
  go_ret
  exact ⟨rfl, T3.out⟩

set_option maxHeartbeats 4000000 in
theorem only_err (b off n cap : Nat) (k er : Int) (w : World) (h1 : 1 ≤ n) (hn : n ≤ 100) (hk : w.cell? ⟨b, off, none⟩ = some (.int .u8 k))
    (H15 : Calls Try.prog 15 #[.slice (some ⟨b, off, none⟩) n cap] w fun e w' => e = .returned (.tuple #[zrec, .int .i64 er]) ∧ Below w.heap.size w w')
    (hc : (er = 50 ∧ (k = 1 ∧ n < 20 ∨ k = 2 ∧ n < 8)) ∨ (er = 11 ∧ ¬ (k = 1 ∧ n < 20 ∨ k = 2 ∧ n < 8))) :
    Calls Try.prog 4 #[.slice (some ⟨b, off, none⟩) n cap] w fun e w' => e = .returned (.bool true) ∧ Below w.heap.size w w' := by
  have K15 := Lib.hid H15
  clear H15
  have n0 : (0 : Int) < (n : Int) := by omega
  have n1 : 0 < n := by omega
  have nz : ¬ n = 0 := by omega
  have l100 : (n : Int) ≤ 100 := by omega
  have hcase : (k = 1 ∧ n < 20 ∧ er = 50) ∨ (k = 1 ∧ 20 ≤ n ∧ er = 11) ∨ (k = 2 ∧ n < 8 ∧ er = 50) ∨ (k = 2 ∧ 8 ≤ n ∧ er = 11) ∨ (¬ k = 1 ∧ ¬ k = 2 ∧ er = 11) := by omega
  clear hc
  have hlt : b < w.heap.size := by obtain ⟨o, ho, _⟩ := cells_of_cell hk; exact heap_lt ho
  clear h1
  have hb0 : ((n : Int) == 0) = false := by simp; omega
  rcases hcase with ⟨rfl, hm, rfl⟩ | ⟨rfl, hm, rfl⟩ | ⟨rfl, hm, rfl⟩ | ⟨rfl, hm, rfl⟩ | ⟨h1', h2', rfl⟩
  case' inl => have hm' : (n : Int) < 20 := by omega
  case' inr.inl => have hm' : (20 : Int) ≤ (n : Int) := by omega
                   have hd : decide ((n : Int) < 20) = false := by simpa using hm'
  case' inr.inr.inl => have hm' : (n : Int) < 8 := by omega
  case' inr.inr.inr.inl => have hm' : (8 : Int) ≤ (n : Int) := by omega
                           have hd : decide ((n : Int) < 8) = false := by simpa using hm'
  all_goals
    go_enter Try.func4, Try.ntmps4
    go_wp2_with fail
    refine K15.out.mono ?_
    rintro e w1 ⟨rfl, hB⟩
    have T1 : Hid (Ext w w1) := Lib.hid hB
    have hk1 := Ext.cell hB hk
    have hlt1 : b < w1.heap.size := Nat.lt_of_lt_of_le hlt hB.size
    clear hB hk
    unfold zrec
    go_wp2_with (first | (go_at_call 18; refine (rsame_zero _).mono ?_; rintro e w2 ⟨rfl, hB⟩; have T2 : Hid (Ext w w2) := Lib.hid (T1.out.trans (Ext.of1 hB)); clear hB) | (go_at_call 14; refine (wakes05 _).mono ?_; rintro e w3 ⟨rfl, hB⟩; have T3 : Hid (Ext w w3) := Lib.hid (T2.out.trans hB); clear hB))
    go_ret
    exact ⟨rfl, T3.out⟩


set_option maxHeartbeats 4000000 in
theorem only_ok (b off n cap : Nat) (r : RecD) (zs : List Int) (w : World) (hn : n ≤ 100) (hl : zs.length = n) (hrow : Row w b off zs) (hi : r.inside = true) (hr : r.right = true) (hz : r.bytes = zs)
    (H15 : Calls Try.prog 15 #[.slice (some ⟨b, off, none⟩) n cap] w fun e w' => e = .returned (.tuple #[r.val, .int .i64 0]) ∧ Below w.heap.size w w') :
    Calls Try.prog 4 #[.slice (some ⟨b, off, none⟩) n cap] w fun e w' => e = .returned (.bool true) ∧ Below w.heap.size w w' := by
  have K15 := Lib.hid H15
  have K16 := Lib.hid (fun w => put_ok r zs n hi hr hz hl hrow.byte w)
  have K17 := Lib.hid (fun w => rright_rec r hi w)
  rw [hr] at K17
  have HR := Lib.hid hrow
  have HL := Lib.hid hl
  clear H15 hi hr hz hrow hl
  obtain ⟨kd, ts, src, seq, ek, x, y, rs, rt⟩ := r
  simp only [RecD.val] at K15 K16 K17
  generalize fb x = X at *
  generalize fb y = Y at *
  have l100 : (n : Int) ≤ 100 := by omega
  go_enter Try.func4, Try.ntmps4
  go_wp2_with fail
  refine K15.out.mono ?_
  rintro e w1 ⟨rfl, hB⟩
  have T1 : Hid (Ext w w1) := Lib.hid hB
  clear hB K15
  go_wp2_with fail
  refine (K16.out _).mono ?_
  rintro e w2 ⟨g, cap2, rfl, -, hg, hc, hm, hr2, hB⟩
  have T2 : Hid (Ext w w2) := Lib.hid (T1.out.trans (Ext.of1 hB))
  have hbox := Ext.heap hB (World.alloc_heap_new w1 _)
  obtain ⟨a0, a1, a2, a3, a4, a5, a6, a7⟩ := row8 hbox
  have u9 : Try.prog.underlying 9 = some .string := by kernel_rfl
  have k1 := run_convert_bytes_arg (P := Try.prog) w2 30 5 und30 und5 g 0 n cap2 zs HL.out (fun i hi => hr2.cell i (by rw [HL.out]; exact hi)) 9 u9
  have k2 := run_convert_bytes_arg (P := Try.prog) w2 30 5 und30 und5 b off n cap zs HL.out (fun i hi => (Ext.row T2.out HR.out).cell i (by rw [HL.out]; exact hi)) 9 u9
  clear hB K16 u9 hr2 hbox
  generalize strOfNums zs = S at *
  go_wp2_with (first | (go_at_call 17; refine (K17.out _).mono ?_; rintro e w3 ⟨rfl, hB⟩; have T3 : Hid (Ext w w3) := Lib.hid (T2.out.trans hB); clear hB) | (go_at_call 14; refine (wakes05 _).mono ?_; rintro e w4 ⟨rfl, hB⟩; have T4 : Hid (Ext w w4) := Lib.hid (T3.out.trans hB); clear hB))
  go_ret
  exact ⟨rfl, T4.out⟩

theorem only_walk (b off cap : Nat) (zs : List Int) (w : World) (hrow : Row w b off zs) (hcap : zs.length ≤ cap) (hmax : cap ≤ maxLen) :
    Calls Try.prog 4 #[.slice (some ⟨b, off, none⟩) zs.length cap] w fun e w' => e = .returned (.bool true) ∧ Below w.heap.size w w' := by
  by_cases hn : 100 < zs.length
  · exact only_long _ _ _ _ hn
  have H := take_rec b off cap zs w hrow hcap hmax
  rcases takeD_err zs with h0 | h0
  · obtain ⟨h1, h2, h3, h4⟩ := takeD_ok zs hrow.byte h0
    rw [h0] at H
    exact only_ok b off _ cap (takeD zs).1 zs w (by omega) rfl hrow h2 h1 h3 H
  · have hz : (takeD zs).1 = RecD.zero := by rcases h0 with h | h <;> exact h.2.2
    rw [hz, RecD.zero_val] at H
    match zs, hrow, hcap, h0, H, hn with
    | [], _, _, _, _, _ => exact only_empty _ _ _
    | k :: l, hrow, hcap, h0, H, hn =>
      have hk : w.cell? ⟨b, off, none⟩ = some (.int .u8 k) := by have := hrow.cell 0 (by simp); simpa using this
      refine only_err b off _ cap k _ w (by simp) (by omega) hk H ?_
      have hl : (k :: l).length = l.length + 1 := rfl
      rw [hl]
      rcases h0 with ⟨h1, h2, _⟩ | ⟨h1, h2, _⟩
      · refine .inl ⟨h1, ?_⟩
        simp [shortD] at h2
        omega
      · refine .inr ⟨h1, ?_⟩
        simp [shortD] at h2
        omega

end Go.Proofs.Ytcbneobdelbhlaa
