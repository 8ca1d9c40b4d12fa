/-
  Package split: Rec.
-/
import Derived.Test.YtcbneobdelbhlaaSc
namespace Go.Proofs.Ytcbneobdelbhlaa
open Go.RowKit Go.Shelf

/-- The record that a piece is. -/
def recOf (cut : Bool) (zs : List Int) : RecD × Int := if cut = true ∨ zs = [] then (RecD.zero, 11) else takeD zs

set_option maxHeartbeats 1000000 in
theorem rec_bad (at_ : Int) (A : Option Addr) (n cap : Nat) (cut : Bool) (w : World) (h : cut = true ∨ n = 0) (hA : A = none → n = 0 ∧ cap = 0) :
    Calls Try.prog 26 #[.agg #[.int .i64 at_, .slice A n cap, .bool cut]] w fun e w' => e = .returned (.tuple #[zrec, .int .i64 11]) ∧ Ext w w' := by
  have H : (cut = true) ∨ (cut = false ∧ n = 0) := by cases cut <;> simp_all
  clear h
  rcases A with _ | A
  · obtain ⟨rfl, rfl⟩ := hA rfl
    clear hA
    rcases H with rfl | ⟨rfl, -⟩
    all_goals
      refine calls_of_wp_m Try.func26 rfl ?_
      simp only [Try.ntmps26, List.size_toArray, List.length_cons, List.length_nil, Nat.reduceAdd, Nat.reduceSub, Array.replicate_succ, Array.replicate_zero, List.push_toArray, List.append_toArray, List.nil_append, List.cons_append]
      go_wp2
      refine wp_scope_goto 0 rfl ?_
      go_wp2
      go_step3
      refine ⟨rfl, ?_⟩
      go_wp2
      rw [Exit.noGoto_ret]
      refine postM_ret0 (v := .tuple #[zrec, .int .i64 11]) (by simp [results, Try.results26, go_sem, zrec]) ⟨rfl, ((Ext.refl w).alloc _).alloc _⟩
  · clear hA
    rcases H with rfl | ⟨rfl, rfl⟩
    all_goals
      refine calls_of_wp_m Try.func26 rfl ?_
      simp only [Try.ntmps26, List.size_toArray, List.length_cons, List.length_nil, Nat.reduceAdd, Nat.reduceSub, Array.replicate_succ, Array.replicate_zero, List.push_toArray, List.append_toArray, List.nil_append, List.cons_append]
      go_wp2
      refine wp_scope_goto 0 rfl ?_
      go_wp2
      go_step3
      refine ⟨rfl, ?_⟩
      go_wp2
      rw [Exit.noGoto_ret]
      refine postM_ret0 (v := .tuple #[zrec, .int .i64 11]) (by simp [results, Try.results26, go_sem, zrec]) ⟨rfl, ((Ext.refl w).alloc _).alloc _⟩

theorem set8' {n b : Nat} {w w1 : World} (h : Below n w w1) (hb : n ≤ b) (v0 v1 v2 v3 v4 v5 v6 v7 : Value) :
    Below n w ((((((((w1.setCell ⟨b, 0, none⟩ v0).setCell ⟨b, 1, none⟩ v1).setCell ⟨b, 2, none⟩ v2).setCell ⟨b, 3, none⟩ v3).setCell ⟨b, 4, none⟩ v4).setCell ⟨b, 5, none⟩ v5).setCell ⟨b, 6, none⟩ v6).setCell ⟨b, 7, none⟩ v7) :=
  (((((((h.setCell (p := ⟨b, 0, none⟩) hb _).setCell (p := ⟨b, 1, none⟩) hb _).setCell (p := ⟨b, 2, none⟩) hb _).setCell (p := ⟨b, 3, none⟩) hb _).setCell (p := ⟨b, 4, none⟩) hb _).setCell (p := ⟨b, 5, none⟩) hb _).setCell (p := ⟨b, 6, none⟩) hb _).setCell (p := ⟨b, 7, none⟩) hb _

theorem set8_heap {w : World} {b : Nat} {c0 c1 c2 c3 c4 c5 c6 c7 : Value} {t : TypeId} (h : w.heap[b]? = some (.cells #[c0, c1, c2, c3, c4, c5, c6, c7] t (0, 0))) (kd ts src seq ek : Int) (re im : Nat) (rs rt : Int) :
    ((((((((w.setCell ⟨b, 0, none⟩ (.int .u8 kd)).setCell ⟨b, 1, none⟩ (.int .i64 ts)).setCell ⟨b, 2, none⟩ (.int .i64 src)).setCell ⟨b, 3, none⟩ (.int .i64 seq)).setCell ⟨b, 4, none⟩ (.int .i64 ek)).setCell ⟨b, 5, none⟩ (.complex .f64 re im)).setCell ⟨b, 6, none⟩ (.int .i64 rs)).setCell ⟨b, 7, none⟩ (.int .i64 rt)).heap[b]? =
      some (.cells #[.int .u8 kd, .int .i64 ts, .int .i64 src, .int .i64 seq, .int .i64 ek, .complex .f64 re im, .int .i64 rs, .int .i64 rt] t (0, 0)) := by
  simp [World.setCell, Array.getElem?_modify, h]

theorem res26 {W : World} {b : Nat} {tmps : Array Value} {c0 c1 c2 c3 c4 c5 c6 c7 v3 : Value} (h2 : tmps[2]?.getD undef = .pointer (some ⟨b, 0, none⟩)) (h3 : tmps[3]?.getD undef = v3) (h : W.heap[b]? = some (.cells #[c0, c1, c2, c3, c4, c5, c6, c7] 34 (0, 0))) :
    (results Try.f26 tmps).run Try.prog W = .ok (.tuple #[.agg #[c0, c1, c2, c3, c4, c5, c6, c7], v3]) W := by
  obtain ⟨x0, x1, x2, x3, x4, x5, x6, x7⟩ := row8 h
  simp [results, Try.results26, go_sem, h2, h3, x0, x1, x2, x3, x4, x5, x6, x7]

set_option maxHeartbeats 2000000 in
theorem rec_good (at_ : Int) (b off n cap : Nat) (kd ts src seq ek rs rt er : Int) (re im : Nat) (w : World) (h1 : 1 ≤ n)
    (H15 : ∀ w', Ext w w' → Calls Try.prog 15 #[.slice (some ⟨b, off, none⟩) n cap] w' fun e w'' => e = .returned (.tuple #[.agg #[.int .u8 kd, .int .i64 ts, .int .i64 src, .int .i64 seq, .int .i64 ek, .complex .f64 re im, .int .i64 rs, .int .i64 rt], .int .i64 er]) ∧ Ext w' w'') :
    Calls Try.prog 26 #[.agg #[.int .i64 at_, .slice (some ⟨b, off, none⟩) n cap, .bool false]] w fun e w' =>
      e = .returned (.tuple #[if er = 0 then .agg #[.int .u8 kd, .int .i64 ts, .int .i64 src, .int .i64 seq, .int .i64 ek, .complex .f64 re im, .int .i64 rs, .int .i64 rt] else zrec, .int .i64 er]) ∧ Ext w w' := by
  have K := Lib.hid H15
  clear H15
  have n1 : 0 < n := by omega
  have nz : ¬ n = 0 := by omega
  by_cases h0 : er = 0
  · subst h0
    clear h1
    refine calls_of_wp_m Try.func26 rfl ?_
    simp only [Try.ntmps26, List.size_toArray, List.length_cons, List.length_nil, Nat.reduceAdd, Nat.reduceSub, Array.replicate_succ, Array.replicate_zero, List.push_toArray, List.append_toArray, List.nil_append, List.cons_append]
    go_wp2
    refine wp_scope_goto 0 rfl ?_
    go_wp2_with (go_at_call 15; refine (K.out _ (((Ext.refl w).alloc _).alloc _)).mono ?_; rintro e w2 ⟨rfl, hE⟩; have hbox := hE.heap (heap_top (W := w.alloc (.cells #[.int .i64 at_, .slice (some ⟨b, off, none⟩) n cap, .bool false] 46)) (o := .cells #[.int .u8 0, .int .i64 0, .int .i64 0, .int .i64 0, .int .i64 0, .complex .f64 0 0, .int .i64 0, .int .i64 0] 34) (n := w.heap.size + 1) (by simp)); have T := Lib.hid (Ext.of2 hE); obtain ⟨a0, a1, a2, a3, a4, a5, a6, a7⟩ := row8 hbox; have bf := row_free hbox; have HB := Lib.hid hbox; clear hbox hE)
    rw [jump_ret]
    refine postM_ret0 (v := .tuple #[.agg #[.int .u8 kd, .int .i64 ts, .int .i64 src, .int .i64 seq, .int .i64 ek, .complex .f64 re im, .int .i64 rs, .int .i64 rt], .int .i64 0]) ?_ ⟨rfl, ?_⟩
    · exact res26 rfl rfl (set8_heap (set8_heap HB.out kd ts src seq ek re im rs rt) kd ts src seq ek re im rs rt)
    · exact set8' (set8' T.out (Nat.le_succ _) _ _ _ _ _ _ _ _) (Nat.le_succ _) _ _ _ _ _ _ _ _
  · have hne : (er == 0) = false := by simpa using h0
    clear h1
    refine calls_of_wp_m Try.func26 rfl ?_
    simp only [Try.ntmps26, List.size_toArray, List.length_cons, List.length_nil, Nat.reduceAdd, Nat.reduceSub, Array.replicate_succ, Array.replicate_zero, List.push_toArray, List.append_toArray, List.nil_append, List.cons_append]
    go_wp2
    refine wp_scope_goto 0 rfl ?_
    go_wp2_with (go_at_call 15; refine (K.out _ (((Ext.refl w).alloc _).alloc _)).mono ?_; rintro e w2 ⟨rfl, hE⟩; have hbox := hE.heap (heap_top (W := w.alloc (.cells #[.int .i64 at_, .slice (some ⟨b, off, none⟩) n cap, .bool false] 46)) (o := .cells #[.int .u8 0, .int .i64 0, .int .i64 0, .int .i64 0, .int .i64 0, .complex .f64 0 0, .int .i64 0, .int .i64 0] 34) (n := w.heap.size + 1) (by simp)); have T := Lib.hid (Ext.of2 hE); obtain ⟨a0, a1, a2, a3, a4, a5, a6, a7⟩ := row8 hbox; have bf := row_free hbox; have HB := Lib.hid hbox; clear hbox hE)
    go_step3
    go_wp2
    rw [jump_ret]
    refine postM_ret0 (v := .tuple #[zrec, .int .i64 er]) ?_ ⟨by rw [if_neg h0], ?_⟩
    · exact res26 rfl rfl (set8_heap (set8_heap HB.out kd ts src seq ek re im rs rt) 0 0 0 0 0 0 0 0 0)
    · exact set8' (set8' T.out (Nat.le_succ _) _ _ _ _ _ _ _ _) (Nat.le_succ _) _ _ _ _ _ _ _ _

theorem rec_any (at_ : Int) (b off cap : Nat) (zs : List Int) (cut : Bool) (w : World) (hrow : Row w b off zs) (hcap : zs.length ≤ cap) (hmax : cap ≤ maxLen) :
    Calls Try.prog 26 #[.agg #[.int .i64 at_, .slice (some ⟨b, off, none⟩) zs.length cap, .bool cut]] w fun e w' => e = .returned (.tuple #[(recOf cut zs).1.val, .int .i64 (recOf cut zs).2]) ∧ Ext w w' := by
  by_cases h : cut = true ∨ zs = []
  · have e : recOf cut zs = (RecD.zero, 11) := by simp [recOf, h]
    rw [e, RecD.zero_val]
    exact rec_bad at_ _ _ cap cut w (h.imp id (fun h => by simp [h])) (fun h => by cases h)
  · have e : recOf cut zs = takeD zs := by simp only [recOf, if_neg h]
    rw [e]
    have hc : cut = false := by cases cut <;> simp_all
    subst hc
    have hn : 1 ≤ zs.length := by
      rcases zs with _ | ⟨k, l⟩
      · exact absurd (Or.inr rfl) h
      · simp
    have := rec_good at_ b off zs.length cap (takeD zs).1.kd (takeD zs).1.ts (takeD zs).1.src (takeD zs).1.seq (takeD zs).1.ek (takeD zs).1.rs (takeD zs).1.rt (takeD zs).2 (fb (takeD zs).1.x) (fb (takeD zs).1.y) w hn
      (fun w' hE => take_rec b off cap zs w' (hE.row hrow) hcap hmax)
    refine this.mono ?_
    rintro e w' ⟨rfl, hE⟩
    refine ⟨?_, hE⟩
    rcases takeD_err zs with h0 | h0
    · rw [h0]; rfl
    · have hz : (takeD zs).1 = RecD.zero := by rcases h0 with h | h <;> exact h.2.2
      have hn : ¬ (takeD zs).2 = 0 := by rcases h0 with h | h <;> rw [h.1] <;> decide
      rw [if_neg hn, hz, RecD.zero_val]

end Go.Proofs.Ytcbneobdelbhlaa
