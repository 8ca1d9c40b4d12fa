/-
  The law's own wakes of package split: what they call.
-/
import Derived.Test.YtcbneobdelbhlaaSg
namespace Go.Proofs.Ytcbneobdelbhlaa
open Go.RowKit Go.Shelf

theorem info30 : (Try.prog.info? 30).map (fun i => (i.zero, i.size, i.bytes)) = some (some (.slice none 0 0), 1, 24) := by kernel_rfl

def mark9 : RecD := ⟨2, 0, 0, 0, 0, 0, 0, 3, 9⟩
theorem mark9_val : mark9.val = .agg #[.int .u8 2, .int .i64 0, .int .i64 0, .int .i64 0, .int .i64 0, .complex .f64 0 0, .int .i64 3, .int .i64 9] := by simp [mark9, RecD.val, fb0]
theorem putOk_mark9 (w : World) : Calls Try.prog 16 #[.agg #[.int .u8 2, .int .i64 0, .int .i64 0, .int .i64 0, .int .i64 0, .complex .f64 0 0, .int .i64 3, .int .i64 9]] w (PutOk [2, 3, 0, 0, 0, 0, 0, 9] 8 w) := by
  rw [← mark9_val]; exact put_ok mark9 _ _ (by decide) (by decide) (by decide) rfl (by decide) w

theorem row_of_join {w w' : World} {v : Value} {zs : List Int} {n : Nat} (hz : zs.length = n) (hn : 0 < n) (hb : ∀ x ∈ zs, 0 ≤ x ∧ x ≤ 255) (h : w'.ownsRow w.heap.size 5 1 v zs.length (zs.map (Value.int .u8))) :
    ∃ g cap, v = .slice (some ⟨g, 0, none⟩) n cap ∧ n ≤ cap ∧ cap ≤ maxLen ∧ Row w' g 0 zs := by
  rw [hz] at h
  obtain ⟨g, cap, rfl, _, _, h1, h2, h3⟩ := row_of_owns h hn hb
  exact ⟨g, cap, rfl, h1, h2, h3⟩

theorem join_one (gl b cap cp n : Nat) (zs : List Int) (w : World) (hn : zs.length = n) (h255 : n ≤ 255) (hc : w.cell? ⟨gl, 0, none⟩ = some (.slice (some ⟨b, 0, none⟩) n cp)) (hr : Row w b 0 zs) :
    Calls Try.prog 22 #[.slice (some ⟨gl, 0, none⟩) 1 cap] w fun e w' => ∃ g c, e = .returned (.tuple #[.slice (some ⟨g, 0, none⟩) (n + 1) c, .int .i64 0]) ∧ n + 1 ≤ c ∧ c ≤ maxLen ∧ Row w' g 0 ((n : Int) :: zs) ∧ Ext w w' := by
  refine (join_any gl 1 cap [⟨some ⟨b, 0, none⟩, cp, zs⟩] w rfl (by decide) (by intro x hx; simp at hx; subst hx; simpa [hn] using h255) ?_ ?_).mono ?_
  · intro j x hx
    match j, hx with
    | 0, hx => simp at hx; subst hx; rw [hc]; simp [JX.val, hn]
  · intro x hx
    simp at hx; subst hx
    exact .inr ⟨b, 0, rfl, hr⟩
  · rintro e w' ⟨v, rfl, hown, hE⟩
    have e : joinD ([(⟨some ⟨b, 0, none⟩, cp, zs⟩ : JX)].map JX.bytes) = (n : Int) :: zs := by simp [joinD, hn]
    rw [e] at hown
    obtain ⟨g, c, rfl, h1, h2, h3⟩ := row_of_join (n := n + 1) (by simp [hn]) (by omega) (by intro x hx; rcases List.mem_cons.1 hx with rfl | hx; omega; exact hr.byte x hx) hown
    exact ⟨g, c, rfl, h1, h2, h3, hE⟩

set_option maxHeartbeats 2000000 in
theorem split_put (b : Nat) (w : World) (h : w.heap[b]? = some (.cells #[.int .u8 2, .int .i64 0, .int .i64 0, .int .i64 0, .int .i64 0, .complex .f64 0 0, .int .i64 3, .int .i64 9] 34 (0, 0))) :
    Calls Try.prog 48 #[.slice (some ⟨b, 0, none⟩) 1 1] w fun e w' => ∃ g c, e = .returned (.tuple #[.slice (some ⟨g, 0, none⟩) 9 c, .int .i64 0]) ∧ 9 ≤ c ∧ c ≤ maxLen ∧ Row w' g 0 [8, 2, 3, 0, 0, 0, 0, 0, 9] ∧ Ext w w' := by
  obtain ⟨i0, hi, hz0, hz1, hz2⟩ := info_parts info30
  obtain ⟨a0, a1, a2, a3, a4, a5, a6, a7⟩ := row8 h
  clear h
  go_enter Try.func48, Try.ntmps48
  go_wp2
  refine wp_loop_rounds 2 ?_
  rw [rounds_succ]
  go_wp2_with fail
  refine (putOk_mark9 _).mono ?_
  rintro e w2 ⟨g1, cap1, rfl, -, hg1, hc1, hm1, hr, hB⟩
  have T2 : Hid (Ext w w2) := Lib.hid (((Ext.refl w).alloc _).trans hB)
  have R2 := Lib.hid hr
  clear hB hr
  go_wp2_with (at_builtin; refine wpList_append_own _ rfl (.tmp 22) (.tmp 24) 44 (by rfl) w.heap.size 30 i0 (.slice none 0 0) 1 24 und44 hi hz0 hz1 hz2 rfl (by omega) (.slice none 0 0) 0 [] (by rfl) (World.ownsRow_nil _ _ _ _) ⟨w2.heap.size, 0, none⟩ 1 1 [.slice (some ⟨g1, 0, none⟩) 8 cap1] (by rfl) (by rfl) (news_new w2 30 [.slice (some ⟨g1, 0, none⟩) 8 cap1]) (by intro u hu; simp at hu; subst hu; rfl) (by decide) (by decide) (by have := Below.size T2.out; simp; omega) ?_; intro v1 w3 hown hg hnil; obtain ⟨g3, cap3, rfl, _, _⟩ := hown.form (by omega); have E3 : Ext w2 w3 := Below.grown ((Ext.refl w2).alloc _) hg (by simp) (fun q hq => by simp [Value.ownBlock] at hq); have Y := Lib.hid (And.intro hown E3); clear hown hg hnil E3)
  rw [rounds_succ]
  have HC := Lib.hid (join_one g3 g1 cap3 cap1 8 [2, 3, 0, 0, 0, 0, 0, 9] w3 rfl (by decide) (by rw [Y.out.1.cellAt 0 (by omega)]; rfl) (Y.out.2.row R2.out))
  go_wp2_with (go_at_call 22; refine HC.out.mono ?_; rintro e w4 ⟨g4, c4, rfl, h1, h2, h3, h4⟩)
  go_ret2
  exact ⟨g4, c4, rfl, h1, h2, h3, T2.out.trans (Y.out.2.trans h4)⟩

set_option maxHeartbeats 1000000 in
theorem join_long (gl b cap cp : Nat) (w : World) (hc : w.cell? ⟨gl, 0, none⟩ = some (.slice (some ⟨b, 0, none⟩) 256 cp)) :
    Calls Try.prog 22 #[.slice (some ⟨gl, 0, none⟩) 1 cap] w fun e w' => e = .returned (.tuple #[.slice none 0 0, .int .i64 2]) ∧ Ext w w' := by
  go_enter Try.func22, Try.ntmps22
  go_wp2
  refine wp_loop_rounds 1 ?_
  rw [rounds_succ]
  go_wp2
  go_ret2
  exact ⟨rfl, Ext.refl w⟩

end Go.Proofs.Ytcbneobdelbhlaa
