/-
  SplitBad's walk.
-/
import Derived.Test.YtcbneobdelbhlaaSi
import Derived.Test.YtcbneobdelbhlaaSk
namespace Go.Proofs.Ytcbneobdelbhlaa
open Go.RowKit Go.Shelf

set_option maxHeartbeats 1000000 in
theorem bad_long (at_ : Int) (A : Option Addr) (n cap : Nat) (cut : Bool) (w : World) (hn : 300 < n) :
    Calls Try.prog 7 #[.agg #[.int .i64 at_, .slice A n cap, .bool cut]] w fun e w' => e = .returned (.bool true) ∧ Ext w w' := by
  have h1 : (300 : Int) < (n : Int) := by omega
  clear hn
  go_enter Try.func7, Try.ntmps7
  go_wp2_with (go_at_call 19; refine (wakes06 _).mono ?_; rintro e w1 ⟨rfl, hB⟩)
  go_ret
  exact ⟨rfl, ((Ext.refl w).alloc _).trans hB⟩

set_option maxHeartbeats 2000000 in
theorem bad_none (at_ : Int) (A : Option Addr) (n cap : Nat) (cut : Bool) (w : World) (hn : n ≤ 300) (h : cut = true ∨ n = 0) (hA : A = none → n = 0 ∧ cap = 0) :
    Calls Try.prog 7 #[.agg #[.int .i64 at_, .slice A n cap, .bool cut]] w fun e w' => e = .returned (.bool true) ∧ Ext w w' := by
  have K26 := Lib.hid (fun w => rec_bad at_ A n cap cut w h hA)
  unfold zrec at K26
  have h1 : (n : Int) ≤ 300 := by omega
  have hcase : (n = 0) ∨ (¬ n = 0 ∧ cut = true) := by
    by_cases h0 : n = 0
    · exact .inl h0
    · exact .inr ⟨h0, h.resolve_right h0⟩
  clear h hA hn
  rcases hcase with rfl | ⟨hn0, rfl⟩
  case' inr => have nb : ((n : Int) == 0) = false := by simp; omega
  all_goals
    go_enter Try.func7, Try.ntmps7
    go_wp2_with (first | (go_at_call 26; refine (K26.out _).mono ?_; rintro e w1 ⟨rfl, hE⟩; have T1 : Hid (Ext w w1) := Lib.hid (Ext.of1 hE); have hbox := hE.heap (World.alloc_heap_new w _); obtain ⟨b0, b1, b2⟩ := row3 hbox; have lt1 : w.heap.size < w1.heap.size := heap_lt hbox; clear hE hbox) | (go_at_call 18; refine (rsame_zero _).mono ?_; rintro e w2 ⟨rfl, hB⟩; have T2 : Hid (Ext w w2) := Lib.hid (T1.out.trans (Ext.of1 hB)); clear hB) | (go_at_call 19; refine (wakes06 _).mono ?_; rintro e w3 ⟨rfl, hB⟩; have T3 : Hid (Ext w w3) := Lib.hid (T2.out.trans hB); clear hB))
    go_ret
    exact ⟨rfl, T3.out⟩

set_option maxHeartbeats 4000000 in
theorem bad_some (at_ : Int) (b off n cap : Nat) (r : RecD) (er : Int) (w : World) (hn : n ≤ 300) (h1 : 1 ≤ n) (hi : r.inside = true) (hr : er = 0 ∨ r = RecD.zero)
    (H26 : ∀ w', Ext w w' → Calls Try.prog 26 #[.agg #[.int .i64 at_, .slice (some ⟨b, off, none⟩) n cap, .bool false]] w' fun e w'' => e = .returned (.tuple #[r.val, .int .i64 er]) ∧ Ext w' w'')
    (H27 : ∀ w', Ext w w' → Calls Try.prog 27 #[.slice (some ⟨b, off, none⟩) n cap] w' fun e w'' => e = .returned (.tuple #[r.val, .int .i64 er]) ∧ Ext w' w'') :
    Calls Try.prog 7 #[.agg #[.int .i64 at_, .slice (some ⟨b, off, none⟩) n cap, .bool false]] w fun e w' => e = .returned (.bool true) ∧ Ext w w' := by
  have K26 := Lib.hid H26
  have K27 := Lib.hid H27
  have S := rsame_rec r r hi hi
  rw [RecD.same_self] at S
  have KS := Lib.hid S
  clear H26 H27 S
  have l1 : (n : Int) ≤ 300 := by omega
  have n0 : (0 : Int) < (n : Int) := by omega
  have nz : ¬ n = 0 := by omega
  have nb : ((n : Int) == 0) = false := by simp; omega
  clear hn h1
  rcases Decidable.em (er = 0) with rfl | he
  · clear hr hi
    obtain ⟨kd, ts, src, seq, ek, px, py, rs, rt⟩ := r
    simp only [RecD.val] at K26 K27 KS
    generalize fb px = X at *
    generalize fb py = Y at *
    go_enter Try.func7, Try.ntmps7
    go_wp2_with (first | (go_at_call 26; refine (K26.out _ ((Ext.refl w).alloc _)).mono ?_; rintro e w1 ⟨rfl, hE⟩; have T1 : Hid (Ext w w1) := Lib.hid (Ext.of1 hE); have hbox := hE.heap (World.alloc_heap_new w _); obtain ⟨b0, b1, b2⟩ := row3 hbox; have lt1 : w.heap.size < w1.heap.size := heap_lt hbox; clear hE hbox) | (go_at_call 27; refine (K27.out _ (T1.out.alloc _)).mono ?_; rintro e w2 ⟨rfl, hE⟩; have T2 : Hid (Ext w w2) := Lib.hid (T1.out.trans (Ext.of1 hE)); have hbox := hE.heap (World.alloc_heap_new w1 _); obtain ⟨c0, c1, c2, c3, c4, c5, c6, c7⟩ := row8 hbox; have lt2 : w1.heap.size < w2.heap.size := heap_lt hbox; clear hE hbox) | (go_at_call 18; refine (KS.out _).mono ?_; rintro e w3 ⟨rfl, hB⟩; have T3 : Hid (Ext w w3) := Lib.hid (T2.out.trans (Ext.of1 hB)); clear hB) | (go_at_call 19; refine (wakes06 _).mono ?_; rintro e w4 ⟨rfl, hB⟩; have T4 : Hid (Ext w w4) := Lib.hid (T3.out.trans hB); clear hB))
    go_ret
    exact ⟨rfl, T4.out⟩
  · obtain rfl := hr.resolve_left he
    rw [RecD.zero_val] at K26 K27
    unfold zrec at K26 K27
    have he' : (er == 0) = false := by simpa using he
    clear hr hi KS
    go_enter Try.func7, Try.ntmps7
    go_wp2_with (first | (go_at_call 26; refine (K26.out _ ((Ext.refl w).alloc _)).mono ?_; rintro e w1 ⟨rfl, hE⟩; have T1 : Hid (Ext w w1) := Lib.hid (Ext.of1 hE); have hbox := hE.heap (World.alloc_heap_new w _); obtain ⟨b0, b1, b2⟩ := row3 hbox; have lt1 : w.heap.size < w1.heap.size := heap_lt hbox; clear hE hbox) | (go_at_call 27; refine (K27.out _ (T1.out.alloc _)).mono ?_; rintro e w2 ⟨rfl, hE⟩; have T2 : Hid (Ext w w2) := Lib.hid (T1.out.trans (Ext.of1 hE)); have hbox := hE.heap (World.alloc_heap_new w1 _); obtain ⟨c0, c1, c2, c3, c4, c5, c6, c7⟩ := row8 hbox; have lt2 : w1.heap.size < w2.heap.size := heap_lt hbox; clear hE) | (go_at_call 18; refine (rsame_zero _).mono ?_; rintro e w3 ⟨rfl, hB⟩; first | (have T3 : Hid (Ext w w3) := Lib.hid (T2.out.trans (Ext.of1 hB)); have hbox2 := (Ext.of1 hB).heap hbox; obtain ⟨d0, d1, d2, d3, d4, d5, d6, d7⟩ := row8 hbox2; clear hB hbox hbox2) | (have T5 : Hid (Ext w w3) := Lib.hid (T3.out.trans hB); clear hB)) | (go_at_call 19; refine (wakes06 _).mono ?_; rintro e w4 ⟨rfl, hB⟩; have T4 : Hid (Ext w w4) := Lib.hid (T5.out.trans hB); clear hB))
    go_ret
    exact ⟨rfl, T4.out⟩

theorem bad_walk (at_ : Int) (b off cap : Nat) (cut : Bool) (zs : List Int) (w : World) (hrow : Row w b off zs) (hcap : zs.length ≤ cap) (hmax : cap ≤ maxLen) :
    Calls Try.prog 7 #[.agg #[.int .i64 at_, .slice (some ⟨b, off, none⟩) zs.length cap, .bool cut]] w fun e w' => e = .returned (.bool true) ∧ Ext w w' := by
  by_cases hn : 300 < zs.length
  · exact bad_long _ _ _ _ _ _ hn
  by_cases hc : cut = true ∨ zs.length = 0
  · exact bad_none _ _ _ _ _ _ (by omega) hc (fun h => by cases h)
  · have hcut : cut = false := by cases cut <;> simp_all
    subst hcut
    have e : recOf false zs = takeD zs := by
      have : ¬ (false = true ∨ zs = []) := fun h => hc (h.elim (fun h => by cases h) (fun h => .inr (by simp [h])))
      simp only [recOf, if_neg this]
    refine bad_some at_ b off zs.length cap (takeD zs).1 (takeD zs).2 w (by omega) (by omega) ?_ ?_ (fun w' h => ?_) (fun w' h => rtake_rec b off cap zs w' (h.row hrow) hcap)
    · rcases takeD_err zs with h0 | h0
      · exact (takeD_ok zs hrow.byte h0).2.1
      · have hz : (takeD zs).1 = RecD.zero := by rcases h0 with h | h <;> exact h.2.2
        rw [hz]; decide
    · rcases takeD_err zs with h0 | h0
      · exact .inl h0
      · right; rcases h0 with h | h <;> exact h.2.2
    · have := rec_any at_ b off cap zs false w' (h.row hrow) hcap hmax
      rw [e] at this
      exact this

end Go.Proofs.Ytcbneobdelbhlaa
