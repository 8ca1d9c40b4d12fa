/-
  Package out: Same and its like, of outs that tell the same.
  Package out: Size, Own; the document's Outs.
-/
import Derived.Test.YtcbneobdelbhlaaOu
import Derived.Deep.RegionWith
namespace Go.Proofs.Ytcbneobdelbhlaa
open Go.RowKit Go.Shelf

/-- A slice over a row of integers. -/
def IntsAt (w : World) (A : Option Addr) (n : Nat) (l : List Int) : Prop := l.length = n ∧ (0 < n → ∃ g, A = some ⟨g, 0, none⟩ ∧ IntRow w g l)
theorem IntsAt.ext {w w' : World} {A : Option Addr} {n : Nat} {l : List Int} (h : IntsAt w A n l) (hE : Ext w w') : IntsAt w' A n l := ⟨h.1, fun hn => let ⟨g, h1, h2⟩ := h.2 hn; ⟨g, h1, hE.introw h2⟩⟩
/-- .. of events. -/
def EvsAt (w : World) (A : Option Addr) (n : Nat) (l : List EvD) : Prop := l.length = n ∧ (∀ e ∈ l, e.inside) ∧ (0 < n → ∃ g, A = some ⟨g, 0, none⟩ ∧ EvRow w g l)
theorem EvsAt.ext {w w' : World} {A : Option Addr} {n : Nat} {l : List EvD} (h : EvsAt w A n l) (hE : Ext w w') : EvsAt w' A n l := ⟨h.1, h.2.1, fun hn => let ⟨g, h1, h2⟩ := h.2.2 hn; ⟨g, h1, hE.evrow h2⟩⟩

set_option maxHeartbeats 1000000 in
theorem rints_eq (A B : Option Addr) (n c c' : Nat) (l : List Int) (w : World) (hm : n ≤ 1000) (hA : IntsAt w A n l) (hB : IntsAt w B n l) :
    Calls Try.prog 113 #[.slice A n c, .slice B n c'] w fun e w' => e = .returned (.bool true) ∧ Ext w w' := by
  have HA := Lib.hid (fun w' (hE : Ext w w') => hA.ext hE)
  have HB := Lib.hid (fun w' (hE : Ext w w') => hB.ext hE)
  have p1 : (n : Int) ≤ 1000 := by omega
  clear hA hB
  go_enter Try.func113, Try.ntmps113
  go_wp2
  go_loopw [5] (fun i wr => ∃ j : Nat, j ≤ n ∧ i = .int .i64 j ∧ Ext w wr) (fun i _ => n - (intOf i).toNat)
  case atStart => exact ⟨0, Nat.zero_le _, rfl, Ext.refl _⟩
  case round =>
    obtain ⟨j, hj, rfl, hE⟩ := hrel
    by_cases hlt : j < n
    · obtain ⟨g, rfl, hg⟩ := (HA.out _ hE).2 (by omega)
      obtain ⟨g', rfl, hg'⟩ := (HB.out _ hE).2 (by omega)
      have hl := (HA.out _ hE).1
      have c1 := hg j (by omega)
      have c2 := hg' j (by omega)
      have HE := Lib.hid hE
      clear hg hg' hl hE
      generalize l.getD j 0 = x at *
      go_wp2_with fail
      go_region
      all_goals
        go_wp2_with fail
        go_round
        case rel => exact ⟨j + 1, by omega, by go_num, HE.out.drew⟩
        case measure => simp [intOf]; omega
    · have HE := Lib.hid hE
      clear hE
      go_wp2
      go_ret
      exact ⟨rfl, HE.out⟩

set_option maxHeartbeats 1000000 in
theorem sints_eq (A B : Option Addr) (n c c' : Nat) (l : List Int) (w : World) (hm : n ≤ 1000) (hA : IntsAt w A n l) (hB : IntsAt w B n l) :
    Calls Try.prog 100 #[.slice A n c, .slice B n c'] w fun e w' => e = .returned (.bool true) ∧ Ext w w' := by
  have HA := Lib.hid (fun w' (hE : Ext w w') => hA.ext hE)
  have HB := Lib.hid (fun w' (hE : Ext w w') => hB.ext hE)
  have p1 : (n : Int) ≤ 1000 := by omega
  clear hA hB
  go_enter Try.func100, Try.ntmps100
  go_wp2
  go_loopw [13] (fun i wr => ∃ j : Nat, j ≤ n ∧ i = .int .i64 j ∧ Ext w wr) (fun i _ => n - (intOf i).toNat)
  case atStart => exact ⟨0, Nat.zero_le _, rfl, Ext.refl _⟩
  case round =>
    obtain ⟨j, hj, rfl, hE⟩ := hrel
    by_cases hlt : j < n
    · obtain ⟨g, rfl, hg⟩ := (HA.out _ hE).2 (by omega)
      obtain ⟨g', rfl, hg'⟩ := (HB.out _ hE).2 (by omega)
      have hl := (HA.out _ hE).1
      have c1 := hg j (by omega)
      have c2 := hg' j (by omega)
      have HE := Lib.hid hE
      clear hg hg' hl hE
      generalize l.getD j 0 = x at *
      go_wp2_with fail
      go_region
      all_goals
        go_wp2_with fail
        go_round
        case rel => exact ⟨j + 1, by omega, by go_num, HE.out.drew⟩
        case measure => simp [intOf]; omega
    · have HE := Lib.hid hE
      clear hE
      go_wp2
      go_ret
      exact ⟨rfl, HE.out⟩

theorem row2 {w : World} {b : Nat} {c0 c1 : Value} {t : TypeId} (h : w.heap[b]? = some (.cells #[c0, c1] t (0, 0))) : w.cell? ⟨b, 0, none⟩ = some c0 ∧ w.cell? ⟨b, 1, none⟩ = some c1 := by
  simp [World.cell?, h]

theorem ev_eq (e : EvD) (h : e.inside) (w : World) : Calls Try.prog 47 #[.agg #[.int .i64 e.ts, .int .i64 e.src, .int .i64 e.seq, .int .i64 e.ek, .complex .f64 (fb e.x) (fb e.y)], .agg #[.int .i64 e.ts, .int .i64 e.src, .int .i64 e.seq, .int .i64 e.ek, .complex .f64 (fb e.x) (fb e.y)]] w fun en w' => en = .returned (.bool true) ∧ Ext w w' := by
  refine (reventSame_Pt (Pt_fb h.1 h.2) (Pt_fb h.1 h.2) w).mono ?_
  rintro en w' ⟨rfl, hE⟩
  exact ⟨ret_bool (by simp), hE⟩
theorem ev_eq' (e : EvD) (h : e.inside) (w : World) : Calls Try.prog 102 #[.agg #[.int .i64 e.ts, .int .i64 e.src, .int .i64 e.seq, .int .i64 e.ek, .complex .f64 (fb e.x) (fb e.y)], .agg #[.int .i64 e.ts, .int .i64 e.src, .int .i64 e.seq, .int .i64 e.ek, .complex .f64 (fb e.x) (fb e.y)]] w fun en w' => en = .returned (.bool true) ∧ Ext w w' := by
  refine (eventSame_Pt (Pt_fb h.1 h.2) (Pt_fb h.1 h.2) w).mono ?_
  rintro en w' ⟨rfl, hE⟩
  exact ⟨ret_bool (by simp), hE⟩

theorem EvD.in_of {l : List EvD} (h : ∀ e ∈ l, e.inside) {j : Nat} (hj : j < l.length) : (l.getD j EvD.zero).inside := by
  rw [List.getD_eq_getElem?_getD, List.getElem?_eq_getElem hj]
  exact h _ (List.getElem_mem hj)

set_option maxHeartbeats 4000000 in
set_option maxRecDepth 100000 in
theorem rmatch_eq (A B A' B' : Option Addr) (n c d c' d' : Nat) (l : List Int) (es : List EvD) (w : World) (hm : n ≤ 1000) (hA : IntsAt w A n l) (hB : IntsAt w B n l) (hA' : EvsAt w A' n es) (hB' : EvsAt w B' n es) :
    Calls Try.prog 99 #[.agg #[.slice A n c, .slice A' n c'], .agg #[.slice B n d, .slice B' n d']] w fun e w' => e = .returned (.bool true) ∧ Ext w w' := by
  have H113 := Lib.hid (fun w' (hE : Ext w w') => rints_eq A B n c d l w' hm (hA.ext hE) (hB.ext hE))
  have HA := Lib.hid (fun w' (hE : Ext w w') => hA'.ext hE)
  have HB := Lib.hid (fun w' (hE : Ext w w') => hB'.ext hE)
  have p1 : (n : Int) ≤ 1000 := by omega
  clear hA hB hA' hB'
  go_enter Try.func99, Try.ntmps99
  go_wp2_with (go_at_call 113; go_loud (refine (H113.out _ (((Ext.refl w).alloc _).alloc _)).mono ?_; rintro e w1 ⟨rfl, hE⟩; obtain ⟨q0, q1⟩ := row2 (Ext.heap hE (heap_up (World.alloc_heap_new w _))); obtain ⟨q2, q3⟩ := row2 (Ext.heap hE (heap_top (n := w.heap.size + 1) (by simp))); have T := Lib.hid (Ext.of2 hE); clear hE))
  go_loopw [5] (fun i wr => ∃ j : Nat, j ≤ n ∧ i = .int .i64 j ∧ Ext w1 wr) (fun i _ => n - (intOf i).toNat)
  case atStart => exact ⟨0, Nat.zero_le _, rfl, Ext.refl _⟩
  case round =>
    obtain ⟨j, hj, rfl, hE⟩ := hrel
    replace q1 := hE.cell q1
    replace q3 := hE.cell q3
    clear q0 q2
    by_cases hlt : j < n
    · obtain ⟨g, rfl, hg⟩ := (HA.out _ (T.out.trans hE)).2.2 (by omega)
      obtain ⟨g', rfl, hg'⟩ := (HB.out _ (T.out.trans hE)).2.2 (by omega)
      have hl := (HA.out _ (T.out.trans hE)).1
      obtain ⟨c0, c1, c2, c3, c4⟩ := hg j (by omega)
      obtain ⟨d0, d1, d2, d3, d4⟩ := hg' j (by omega)
      have H47 := Lib.hid (fun w => ev_eq (es.getD j EvD.zero) (EvD.in_of (HA.out _ T.out).2.1 (by omega)) w)
      have HE := Lib.hid hE
      clear hg hg' hl hE
      generalize (es.getD j EvD.zero).ts = ts at *
      generalize (es.getD j EvD.zero).src = src at *
      generalize (es.getD j EvD.zero).seq = seq at *
      generalize (es.getD j EvD.zero).ek = ek at *
      generalize fb (es.getD j EvD.zero).x = X at *
      generalize fb (es.getD j EvD.zero).y = Y at *
      go_wp2_with fail
      refine wp_region_mix (by kernel_rfl) (by kernel_rfl) ?_
      repeat (first | go_big_quiet_step ((go_at_call 47; with_reducible exact Calls.mix_of (H47.out _))) | quiet_step ((go_at_call 47; with_reducible exact Calls.mix_of (H47.out _))))
      refine wpQuiet_nil ?_
      rintro _ ⟨x, rfl⟩
      have hmix := Lib.hid (mix_below wr x)
      go_wp2_with fail
      go_round
      case rel => exact ⟨j + 1, by omega, by go_num, HE.out.trans hmix.out⟩
      case measure => simp [intOf]; omega
    · have HE := Lib.hid hE
      clear hE
      go_wp2
      go_ret
      exact ⟨rfl, T.out.trans HE.out⟩

set_option maxHeartbeats 4000000 in
set_option maxRecDepth 100000 in
theorem sevs_eq (A B : Option Addr) (n c d : Nat) (es : List EvD) (w : World) (hm : n ≤ 1000) (hA : EvsAt w A n es) (hB : EvsAt w B n es) :
    Calls Try.prog 101 #[.slice A n c, .slice B n d, .func (.func 102) #[] #[]] w fun e w' => e = .returned (.bool true) ∧ Ext w w' := by
  have HA := Lib.hid (fun w' (hE : Ext w w') => hA.ext hE)
  have HB := Lib.hid (fun w' (hE : Ext w w') => hB.ext hE)
  have p1 : (n : Int) ≤ 1000 := by omega
  clear hA hB
  go_enter Try.func101, Try.ntmps101
  go_wp2
  go_loopw [17] (fun i wr => ∃ j : Nat, j ≤ n ∧ i = .int .i64 j ∧ Ext w wr) (fun i _ => n - (intOf i).toNat)
  case atStart => exact ⟨0, Nat.zero_le _, rfl, Ext.refl _⟩
  case round =>
    obtain ⟨j, hj, rfl, hE⟩ := hrel
    by_cases hlt : j < n
    · obtain ⟨g, rfl, hg⟩ := (HA.out _ hE).2.2 (by omega)
      obtain ⟨g', rfl, hg'⟩ := (HB.out _ hE).2.2 (by omega)
      have hl := (HA.out _ hE).1
      obtain ⟨c0, c1, c2, c3, c4⟩ := hg j (by omega)
      obtain ⟨d0, d1, d2, d3, d4⟩ := hg' j (by omega)
      have hgl : g' < wr.heap.size := by obtain ⟨o, ho, _⟩ := cells_of_cell d0; exact heap_lt ho
      have hgn : ¬ g' = wr.heap.size := by omega
      have H47 := Lib.hid (fun w => ev_eq' (es.getD j EvD.zero) (EvD.in_of (HA.out _ hE).2.1 (by omega)) w)
      have HE := Lib.hid hE
      clear hg hg' hl hE
      generalize (es.getD j EvD.zero).ts = ts at *
      generalize (es.getD j EvD.zero).src = src at *
      generalize (es.getD j EvD.zero).seq = seq at *
      generalize (es.getD j EvD.zero).ek = ek at *
      generalize fb (es.getD j EvD.zero).x = X at *
      generalize fb (es.getD j EvD.zero).y = Y at *
      go_wp2_with (go_at_call 102; refine (H47.out _).mono ?_; rintro e w1 ⟨rfl, hE1⟩; have T := Lib.hid (HE.out.trans (Ext.of2 hE1)); clear hE1)
      go_round
      case rel => exact ⟨j + 1, by omega, by go_num, T.out⟩
      case measure => simp [intOf]; omega
    · have HE := Lib.hid hE
      clear hE
      go_wp2
      go_ret
      exact ⟨rfl, HE.out⟩

set_option maxHeartbeats 1000000 in
theorem smatch_eq (A B A' B' : Option Addr) (n c d c' d' : Nat) (l : List Int) (es : List EvD) (w : World) (hm : n ≤ 1000) (hA : IntsAt w A n l) (hB : IntsAt w B n l) (hA' : EvsAt w A' n es) (hB' : EvsAt w B' n es) :
    Calls Try.prog 82 #[.agg #[.slice A n c, .slice A' n c'], .agg #[.slice B n d, .slice B' n d']] w fun e w' => e = .returned (.bool true) ∧ Ext w w' := by
  have H100 := Lib.hid (fun w' (hE : Ext w w') => sints_eq A B n c d l w' hm (hA.ext hE) (hB.ext hE))
  have H101 := Lib.hid (fun w' (hE : Ext w w') => sevs_eq A' B' n c' d' es w' hm (hA'.ext hE) (hB'.ext hE))
  clear hA hB hA' hB'
  go_enter Try.func82, Try.ntmps82
  go_wp2_with (first
    | (go_at_call 100; go_loud (refine (H100.out _ (((Ext.refl w).alloc _).alloc _)).mono ?_; rintro e w1 ⟨rfl, hE⟩; obtain ⟨q0, q1⟩ := row2 (Ext.heap hE (heap_up (World.alloc_heap_new w _))); obtain ⟨q2, q3⟩ := row2 (Ext.heap hE (heap_top (n := w.heap.size + 1) (by simp))); have T := Lib.hid (Ext.of2 hE); clear hE))
    | (go_at_call 101; go_loud (refine (H101.out _ T.out).mono ?_; rintro e w2 ⟨rfl, hE⟩; have T2 := Lib.hid (T.out.trans hE); clear hE)))
  go_ret
  exact ⟨rfl, T2.out⟩

theorem OutD.Fit.len {o : OutD} (h : o.Fit) : o.evs.length = o.row.length := by
  rcases h with ⟨_, r, e, _, _, _, _⟩ | ⟨_, r, e, _, _⟩ | ⟨_, _, _, _, _, e, _⟩
  · rw [r, e]; rfl
  · rw [r, e]; rfl
  · exact e
theorem OutD.Fit.small {o : OutD} (h : o.Fit) : o.row.length ≤ 4 := by
  rcases h with ⟨_, r, e, _, _, _, _⟩ | ⟨_, r, e, _, _⟩ | ⟨_, _, _, _, r2, e, _⟩
  · rw [r]; simp
  · rw [r]; simp
  · exact r2
theorem OutD.Fit.ins {o : OutD} (h : o.Fit) : ∀ e ∈ o.evs, e.inside := by
  rcases h with ⟨_, r, e, _, _, _, _⟩ | ⟨_, r, e, _, _⟩ | ⟨_, _, _, _, _, e, hin⟩
  · rw [e]; intro x hx; cases hx
  · rw [e]; intro x hx; cases hx
  · exact hin

/-- The slices of an out, as values. -/
theorem OX.At.forms {W : World} {x : OX} (h : x.At W) : ∃ (A A' : Option Addr) (c c' : Nat), x.rowV = .slice A x.d.row.length c ∧ x.evsV = .slice A' x.d.row.length c' ∧ IntsAt W A x.d.row.length x.d.row ∧ EvsAt W A' x.d.row.length x.d.evs := by
  by_cases hr : x.d.row = []
  · refine ⟨none, none, 0, 0, ?_, ?_, ⟨rfl, fun h => ?_⟩, ⟨h.fit.len, h.fit.ins, fun h => ?_⟩⟩
    · simp [OX.rowV, hr]
    · simp [OX.evsV, hr]
    · rw [hr] at h; simp at h
    · rw [hr] at h; simp at h
  · exact ⟨some ⟨x.b, 0, none⟩, some ⟨x.b', 0, none⟩, x.cap, x.cap', by simp [OX.rowV, hr], by simp [OX.evsV, hr], ⟨rfl, fun _ => ⟨_, rfl, h.row⟩⟩, ⟨h.fit.len, h.fit.ins, fun _ => ⟨_, rfl, h.evs⟩⟩⟩

set_option maxHeartbeats 1000000 in
theorem rout_eq (x y : OX) (hd : x.d = y.d) (w : World) (hx : x.At w) (hy : y.At w) : Calls Try.prog 81 #[x.val, y.val] w fun e w' => e = .returned (.bool true) ∧ Ext w w' := by
  obtain ⟨A, A', c, c', h1, h2, h3, h4⟩ := hx.forms
  obtain ⟨B, B', d, d', k1, k2, k3, k4⟩ := hy.forms
  have hsm := hx.fit.small
  simp only [OX.val, h1, h2, k1, k2]
  rw [hd] at h3 h4 hsm ⊢
  have H99 := Lib.hid (fun w' (hE : Ext w w') => rmatch_eq A B A' B' _ c d c' d' _ _ w' (by omega) (h3.ext hE) (k3.ext hE) (h4.ext hE) (k4.ext hE))
  clear h1 h2 h3 h4 k1 k2 k3 k4 hx hy hd hsm
  generalize y.d.row.length = n at *
  generalize y.d.kd = kd at *
  generalize y.d.at_ = at_ at *
  generalize y.d.code = cd at *
  go_enter Try.func81, Try.ntmps81
  go_wp2_with (go_at_call 99; refine (H99.out _ (((Ext.refl w).alloc _).alloc _)).mono ?_; rintro e w1 ⟨rfl, hE⟩; have T := Lib.hid (Ext.of2 hE); clear hE)
  go_ret
  exact ⟨rfl, T.out⟩

set_option maxHeartbeats 1000000 in
theorem sout_eq (x y : OX) (hd : x.d = y.d) (w : World) (hx : x.At w) (hy : y.At w) : Calls Try.prog 57 #[x.val, y.val] w fun e w' => e = .returned (.bool true) ∧ Ext w w' := by
  obtain ⟨A, A', c, c', h1, h2, h3, h4⟩ := hx.forms
  obtain ⟨B, B', d, d', k1, k2, k3, k4⟩ := hy.forms
  have hsm := hx.fit.small
  simp only [OX.val, h1, h2, k1, k2]
  rw [hd] at h3 h4 hsm ⊢
  have H99 := Lib.hid (fun w' (hE : Ext w w') => smatch_eq A B A' B' _ c d c' d' _ _ w' (by omega) (h3.ext hE) (k3.ext hE) (h4.ext hE) (k4.ext hE))
  clear h1 h2 h3 h4 k1 k2 k3 k4 hx hy hd hsm
  generalize y.d.row.length = n at *
  generalize y.d.kd = kd at *
  generalize y.d.at_ = at_ at *
  generalize y.d.code = cd at *
  go_enter Try.func57, Try.ntmps57
  go_wp2_with (go_at_call 82; refine (H99.out _ (((Ext.refl w).alloc _).alloc _)).mono ?_; rintro e w1 ⟨rfl, hE⟩; have T := Lib.hid (Ext.of2 hE); clear hE)
  go_ret
  exact ⟨rfl, T.out⟩

theorem OX.val_form (x : OX) : ∃ (A B : Option Addr) (n c m d : Nat), x.rowV = .slice A n c ∧ x.evsV = .slice B m d := by
  unfold OX.rowV OX.evsV
  split <;> exact ⟨_, _, _, _, _, _, rfl, rfl⟩

set_option maxHeartbeats 1000000 in
theorem sout_ne (x y : OX) (hd : x.d.kd ≠ y.d.kd) (w : World) : Calls Try.prog 57 #[x.val, y.val] w fun e w' => e = .returned (.bool false) ∧ Ext w w' := by
  obtain ⟨A, A', n, c, n', c', h1, h2⟩ := x.val_form
  obtain ⟨B, B', m, d, m', d', k1, k2⟩ := y.val_form
  simp only [OX.val, h1, h2, k1, k2]
  have hne : (x.d.kd == y.d.kd) = false := by simpa using hd
  clear h1 h2 k1 k2 hd
  generalize y.d.kd = kd at *
  generalize x.d.kd = kd' at *
  generalize y.d.at_ = at_ at *
  generalize y.d.code = cd at *
  generalize x.d.at_ = at_' at *
  generalize x.d.code = cd' at *
  go_enter Try.func57, Try.ntmps57
  go_wp2
  go_ret
  exact ⟨rfl, ((Ext.refl w).alloc _).alloc _⟩

end Go.Proofs.Ytcbneobdelbhlaa

namespace Go.Proofs.Ytcbneobdelbhlaa
open Go.RowKit Go.Shelf

set_option maxHeartbeats 1000000 in
theorem osize_any (x : OX) (w : World) (h : x.At w) : Calls Try.prog 56 #[x.val] w fun e w' => e = .returned (.int .i64 (if x.d.right then if x.d.kd = 3 then 6 else 2 + 21 * (x.d.row.length : Int) else 0)) ∧ Ext w w' := by
  obtain ⟨A, A', c, c', h1, h2, h3, h4⟩ := h.forms
  have hsm := h.fit.small
  have H30 := Lib.hid (fun w' (hE : Ext w w') => oright_any x w' (h.ext hE))
  simp only [OX.val, h1, h2] at H30 ⊢
  clear h1 h2 h3 h4 h
  generalize x.d.row.length = n at *
  generalize x.d.right = R at *
  generalize x.d.kd = kd at *
  generalize x.d.at_ = at_ at *
  generalize x.d.code = cd at *
  have p1 : (n : Int) ≤ 4 := by omega
  cases R
  · simp only [Bool.false_eq_true, if_false]
    go_enter Try.func56, Try.ntmps56
    go_wp2_with (go_at_call 30; refine (H30.out _ ((Ext.refl w).alloc _)).mono ?_; rintro e w1 ⟨rfl, hE⟩; have T := Lib.hid (Ext.of1 hE); clear hE)
    go_ret
    exact ⟨rfl, T.out⟩
  · simp only [if_true]
    by_cases hk : kd = 3
    · subst hk
      simp only [if_true]
      go_enter Try.func56, Try.ntmps56
      go_wp2_with (go_at_call 30; refine (H30.out _ ((Ext.refl w).alloc _)).mono ?_; rintro e w1 ⟨rfl, hE⟩; obtain ⟨r0, r1, r2, r3, r4⟩ := row5 (Ext.heap hE (World.alloc_heap_new w _)); have T := Lib.hid (Ext.of1 hE); clear hE)
      go_ret
      exact ⟨rfl, T.out⟩
    · simp only [if_neg hk]
      have hk' : (kd == 3) = false := by simpa using hk
      go_enter Try.func56, Try.ntmps56
      go_wp2_with (go_at_call 30; refine (H30.out _ ((Ext.refl w).alloc _)).mono ?_; rintro e w1 ⟨rfl, hE⟩; obtain ⟨r0, r1, r2, r3, r4⟩ := row5 (Ext.heap hE (World.alloc_heap_new w _)); have T := Lib.hid (Ext.of1 hE); clear hE)
      go_ret
      exact ⟨rfl, T.out⟩

set_option maxRecDepth 100000 in
theorem clone_ints (g n c : Nat) (l : List Int) (w : World) (hl : l.length = n) (h : IntRow w g l) (hm : n ≤ 1000) :
    Calls Try.prog 103 #[.slice (some ⟨g, 0, none⟩) n c] w fun e w' => ∃ g' c', e = .returned (.slice (some ⟨g', 0, none⟩) n c') ∧ w'.ownsRow w.heap.size 3 1 (.slice (some ⟨g', 0, none⟩) n c') n (l.map (Value.int .i64)) ∧ Ext w w' := by
  obtain ⟨i0, hi, hz0, hz1, hz2⟩ := info_parts info3
  have HR := Lib.hid h
  have HN := Lib.hid hl
  clear h hl
  have he := fun w => Lib.run_eql_slice_nil (P := Try.prog) w 59 3 (some ⟨g, 0, none⟩) n c 0 0 und59
  simp only [Option.isNone_some] at he
  have hnews : Hid (∀ j u, (l.map (Value.int .i64))[j]? = some u → (w.alloc (.cells #[] 3)).cell? ((⟨g, 0, none⟩ : Addr).add j) = some u) := Lib.hid fun j u hj => by
    have hjl : j < l.length := by have := (List.getElem?_eq_some_iff.1 hj).1; simpa using this
    have e : (⟨g, 0, none⟩ : Addr).add j = ⟨g, j, none⟩ := by unfold Addr.add; split <;> simp_all
    rw [e]
    have := Ext.cell ((Ext.refl w).alloc (.cells #[] 3)) (HR.out j hjl)
    rw [this]
    simpa [List.getD_eq_getElem?_getD, List.getElem?_eq_getElem hjl] using hj
  go_enter Try.func103, Try.ntmps103
  go_wp2_with (at_builtin; go_loud (refine wpList_append_own _ rfl (.tmp 5) (.tmp 6) 59 (by rfl) w.heap.size 3 i0 (.int .i64 0) 1 8 und59 hi hz0 hz1 hz2 rfl (by omega) (.slice (some ⟨w.heap.size, 0, none⟩) 0 0) 0 [] (by rfl) (row_empty w 3 1) ⟨g, 0, none⟩ n c (l.map (Value.int .i64)) (by rfl) (by simp [HN.out]) hnews.out (by intro u hu; simp at hu; obtain ⟨_, _, rfl⟩ := hu; rfl) (by unfold maxLen; omega) (by omega) (by simp) ?_; intro v' w1 hown hgrow hnil; obtain ⟨g', c', rfl, hg, hlt⟩ := own_some hown (fun e => by have := hnil.1 e; simp at this); have X := Lib.hid (And.intro hown hgrow); clear hown hgrow hnil hg hlt))
  go_ret
  refine ⟨g', c', ?_, ?_, ?_⟩
  · simp
  · simpa using X.out.1
  · exact Below.grown ((Below.refl _ w).alloc (Nat.le_refl _) _) X.out.2 (by simp) (fun k hk => by simp [Value.ownBlock] at hk; omega)

set_option maxRecDepth 100000 in
theorem clone_evs (g n c : Nat) (l : List EvD) (w : World) (hl : l.length = n) (h : EvRow w g l) (hm : n ≤ 1000) :
    Calls Try.prog 104 #[.slice (some ⟨g, 0, none⟩) n c] w fun e w' => ∃ g' c', e = .returned (.slice (some ⟨g', 0, none⟩) n c') ∧ w'.ownsRow w.heap.size 32 5 (.slice (some ⟨g', 0, none⟩) n c') n (l.flatMap EvD.cells) ∧ Ext w w' := by
  obtain ⟨i0, hi, hz0, hz1, hz2⟩ := info_parts info32
  have HR := Lib.hid h
  have HN := Lib.hid hl
  clear h hl
  have he := fun w => Lib.run_eql_slice_nil (P := Try.prog) w 60 32 (some ⟨g, 0, none⟩) n c 0 0 und60
  simp only [Option.isNone_some] at he
  have hlen : Hid ((l.flatMap EvD.cells).length = n * 5) := Lib.hid (by
    rw [← HN.out]
    clear HR HN hm
    induction l with
    | nil => rfl
    | cons a l ih => rw [List.flatMap_cons, List.length_append, ih, List.length_cons]; simp [EvD.cells]; omega)
  have hnews : Hid (∀ j u, (l.flatMap EvD.cells)[j]? = some u → (w.alloc (.cells #[] 32)).cell? ((⟨g, 0, none⟩ : Addr).add j) = some u) := Lib.hid fun j u hj => by
    have hjl : j < n * 5 := by have := (List.getElem?_eq_some_iff.1 hj).1; rwa [hlen.out] at this
    have e : (⟨g, 0, none⟩ : Addr).add j = ⟨g, j, none⟩ := by unfold Addr.add; split <;> simp_all
    rw [e]
    refine Ext.cell ((Ext.refl w).alloc (.cells #[] 32)) ?_
    have hj5 : j / 5 < l.length := by rw [HN.out]; omega
    obtain ⟨c0, c1, c2, c3, c4⟩ := HR.out (j / 5) hj5
    have hf := flat_getD l (j / 5) hj5 (j % 5) (by omega)
    rw [show j / 5 * 5 + j % 5 = j by omega, hj] at hf
    have hcase : j % 5 = 0 ∨ j % 5 = 1 ∨ j % 5 = 2 ∨ j % 5 = 3 ∨ j % 5 = 4 := by omega
    rcases hcase with h | h | h | h | h <;> rw [h] at hf <;> simp only [EvD.cells, List.getElem?_cons_zero, List.getElem?_cons_succ] at hf
    · rw [show j = j / 5 * 5 by omega, c0, hf]
    · rw [show j = j / 5 * 5 + 1 by omega, c1, hf]
    · rw [show j = j / 5 * 5 + 2 by omega, c2, hf]
    · rw [show j = j / 5 * 5 + 3 by omega, c3, hf]
    · rw [show j = j / 5 * 5 + 4 by omega, c4, hf]
  have h1c : Hid (∀ u ∈ l.flatMap EvD.cells, u.oneCell' = true) := Lib.hid fun u hu => by
    obtain ⟨e, _, he⟩ := List.mem_flatMap.1 hu
    exact EvD.oneCells e u he
  go_enter Try.func104, Try.ntmps104
  go_wp2_with (at_builtin; go_loud (refine wpList_append_own _ rfl (.tmp 5) (.tmp 6) 60 (by rfl) w.heap.size 32 i0 (.agg #[.int .i64 0, .int .i64 0, .int .i64 0, .int .i64 0, .complex .f64 0 0]) 5 48 und60 hi hz0 hz1 hz2 rfl (by omega) (.slice (some ⟨w.heap.size, 0, none⟩) 0 0) 0 [] (by rfl) (row_empty w 32 5) ⟨g, 0, none⟩ n c (l.flatMap EvD.cells) (by rfl) hlen.out hnews.out h1c.out (by unfold maxLen; omega) (by omega) (by simp) ?_; intro v' w1 hown hgrow hnil; obtain ⟨g', c', rfl, hg, hlt⟩ := own_some hown (fun e => by have := hnil.1 e; simp at this); have X := Lib.hid (And.intro hown hgrow); clear hown hgrow hnil hg hlt))
  go_ret
  refine ⟨g', c', ?_, ?_, ?_⟩
  · simp
  · simpa using X.out.1
  · exact Below.grown ((Below.refl _ w).alloc (Nat.le_refl _) _) X.out.2 (by simp) (fun k hk => by simp [Value.ownBlock] at hk; omega)

theorem own4 {W : World} {base b n size : Nat} {e : TypeId} {v a0 a1 a2 a3 : Value} {xs : List Value} (h : W.ownsRow base e size v n xs) (hb : b + 1 + 1 ≤ base) :
    ((((W.setCell ⟨b, 0, none⟩ a0).setCell ⟨b, 1, none⟩ a1).setCell ⟨b + 1, 0, none⟩ a2).setCell ⟨b + 1, 1, none⟩ a3).ownsRow b e size v n xs :=
  own_mono (ownsRow_setCell_below (ownsRow_setCell_below (ownsRow_setCell_below (ownsRow_setCell_below h (by show b < base; omega) _) (by show b < base; omega) _) (by show b + 1 < base; omega) _) (by show b + 1 < base; omega) _) (by omega)

theorem own7 {W : World} {base b n size : Nat} {e : TypeId} {v a0 a1 a2 a3 a4 a5 a6 : Value} {xs : List Value} (h : W.ownsRow base e size v n xs) (hb : b + 1 + 1 ≤ base) :
    (((((((W.setCell ⟨b, 1, none⟩ a0).setCell ⟨b, 2, none⟩ a1).setCell ⟨b + 1, 0, none⟩ a2).setCell ⟨b + 1, 1, none⟩ a3).setCell ⟨b + 1, 2, none⟩ a4).setCell ⟨b + 1, 3, none⟩ a5).setCell ⟨b + 1, 4, none⟩ a6).ownsRow b e size v n xs :=
  own_mono (ownsRow_setCell_below (ownsRow_setCell_below (ownsRow_setCell_below (ownsRow_setCell_below (ownsRow_setCell_below (ownsRow_setCell_below (ownsRow_setCell_below h (by show b < base; omega) _) (by show b < base; omega) _) (by show b + 1 < base; omega) _) (by show b + 1 < base; omega) _) (by show b + 1 < base; omega) _) (by show b + 1 < base; omega) _) (by show b + 1 < base; omega) _) (by omega)

theorem row2_free {w : World} {b : Nat} {cs : Array Value} {t : TypeId} (h : w.heap[b]? = some (.cells cs t (0, 0))) : ∀ i, w.frozen? ⟨b, i, none⟩ = false := row_free h

set_option maxHeartbeats 4000000 in
set_option maxRecDepth 100000 in
theorem smatch_own (g h n c d : Nat) (row : List Int) (evs : List EvD) (w : World) (_h1 : 1 ≤ n) (hm : n ≤ 1000) (hl : row.length = n) (he : evs.length = n) (hg : IntRow w g row) (hh : EvRow w h evs) :
    Calls Try.prog 83 #[.agg #[.slice (some ⟨g, 0, none⟩) n c, .slice (some ⟨h, 0, none⟩) n d]] w fun e w' => ∃ g' c' h' d', e = .returned (.agg #[.slice (some ⟨g', 0, none⟩) n c', .slice (some ⟨h', 0, none⟩) n d']) ∧
      w'.ownsRow w.heap.size 3 1 (.slice (some ⟨g', 0, none⟩) n c') n (row.map (Value.int .i64)) ∧ w'.ownsRow w.heap.size 32 5 (.slice (some ⟨h', 0, none⟩) n d') n (evs.flatMap EvD.cells) ∧ Ext w w' := by
  have H103 := Lib.hid (fun w' (hE : Ext w w') => clone_ints g n c row w' hl (hE.introw hg) hm)
  have H104 := Lib.hid (fun w' (hE : Ext w w') => clone_evs h n d evs w' he (hE.evrow hh) hm)
  clear hl he hg hh
  go_enter Try.func83, Try.ntmps83
  go_wp2_with fail
  go_region_with (first
    | (go_at_call 103; go_loud (refine (H103.out _ (by repeat (first | exact Below.refl _ _ | refine Below.drew ?_ | refine Below.alloc ?_ (by first | (simp; done) | (simp; omega)) _))).mono ?_; rintro e w1 ⟨g', c', rfl, hown, hE⟩; have Z1 := Ext.heap hE (show _ = some (Obj.cells #[.slice (some ⟨g, 0, none⟩) n c, .slice (some ⟨h, 0, none⟩) n d] 62 (0, 0)) from heap_dr (heap_up (World.alloc_heap_new w _))); have Z2 := Ext.heap hE (show _ = some (Obj.cells #[.slice none 0 0, .slice none 0 0] 62 (0, 0)) from heap_dr (heap_top (n := w.heap.size + 1) (by simp))); obtain ⟨z0, z1⟩ := row2 Z1; have zf := row_free Z1; have HO1 := Lib.hid hown; have HZ1 := Lib.hid Z1; have HZ2 := Lib.hid Z2; have T1 : Hid (Ext w w1) := Lib.hid ((((Ext.refl w).alloc _).alloc _).drew.trans hE); clear hE hown Z1 Z2))
    | (go_at_call 104; go_loud (refine (H104.out _ T1.out).mono ?_; rintro e w2 ⟨h', d', rfl, hown, hE⟩; obtain ⟨z0, z1⟩ := row2 (Ext.heap hE HZ1.out); have zf := row_free (Ext.heap hE HZ1.out); obtain ⟨y0, y1⟩ := row2 (Ext.heap hE HZ2.out); have yf := row_free (Ext.heap hE HZ2.out); have HQ := Lib.hid (And.intro (own_mono (owns_ext HO1.out hE) (show w.heap.size + 1 + 1 ≤ _ by simp)) (And.intro hown hE)); have T2 : Hid (Ext w w2) := Lib.hid (T1.out.trans hE); clear hE hown)))
  all_goals
    go_wp2
    obtain ⟨ho1, ho2, hE⟩ := HQ.out
    refine bodyPost_ret (v := .agg #[.slice (some ⟨g', 0, none⟩) n c', .slice (some ⟨h', 0, none⟩) n d']) (by simp [results, Try.results83, go_sem, *]) rfl ⟨g', c', h', d', rfl, own4 ho1 (by omega), own4 ho2 (heap_lt HZ2.out), (((T2.out.setCell (p := ⟨w.heap.size, 0, none⟩) (Nat.le_refl _) _).setCell (p := ⟨w.heap.size, 1, none⟩) (Nat.le_refl _) _).setCell (p := ⟨w.heap.size + 1, 0, none⟩) (Nat.le_succ _) _).setCell (p := ⟨w.heap.size + 1, 1, none⟩) (Nat.le_succ _) _⟩

theorem typed_of_own {W : World} {base g n c size : Nat} {e : TypeId} {xs : List Value} (h : W.ownsRow base e size (.slice (some ⟨g, 0, none⟩) n c) n xs) : ∃ cs, W.heap[g]? = some (.cells cs e (0, 0)) := by
  rcases h.2 with ⟨h, _⟩ | ⟨g2, cap2, cur, hv, _, hh, _⟩
  · cases h
  · injection hv with hv; injection hv with hv; injection hv with hv; subst hv; exact ⟨_, hh⟩

/-- An out whose slices are one's own. -/
theorem at_of_own {W : World} {base b1 n c b2 d : Nat} {o : OutD} (hf : o.Fit) (hr : o.row.length = n) (_h1 : 1 ≤ n) (ho1 : W.ownsRow base 3 1 (.slice (some ⟨b1, 0, none⟩) n c) n (o.row.map (Value.int .i64))) (ho2 : W.ownsRow base 32 5 (.slice (some ⟨b2, 0, none⟩) n d) n (o.evs.flatMap EvD.cells)) :
    (OX.mk o b1 c b2 d).At W :=
  ⟨hf, introw_of_own ho1 hr, evrow_of_own ho2 (by rw [hf.len, hr]), fun _ => ⟨typed_of_own ho1, typed_of_own ho2⟩⟩

set_option maxHeartbeats 4000000 in
set_option maxRecDepth 100000 in
theorem own_any (x : OX) (w : World) (hx : x.At w) (hr : x.d.row ≠ []) : Calls Try.prog 58 #[x.val] w fun e w' => ∃ y : OX, e = .returned y.val ∧ y.d = x.d ∧ y.At w' ∧ Ext w w' := by
  obtain ⟨o, g, c, h, d⟩ := x
  have hn : 1 ≤ o.row.length := by rcases hl : o.row with _ | _ <;> simp_all
  have H83 := Lib.hid (fun w' (hE : Ext w w') => smatch_own g h o.row.length c d o.row o.evs w' hn (by have := hx.fit.small; simp only at this; omega) rfl hx.fit.len (hE.introw hx.row) (hE.evrow hx.evs))
  have HF := Lib.hid hx.fit
  have HR := Lib.hid hr
  have HN := Lib.hid hn
  simp only [OX.val, OX.rowV, OX.evsV, if_neg hr]
  clear hx hr hn
  generalize hrl : o.row.length = n at *
  have HL := Lib.hid hrl
  clear hrl
  go_enter Try.func58, Try.ntmps58
  go_wp2_with (go_at_call 83; go_loud (refine (H83.out _ (((Ext.refl w).alloc _).alloc _)).mono ?_; rintro e w1 ⟨g', c', h', d', rfl, ho1, ho2, hE⟩; have Z1 := Ext.heap hE (heap_up (World.alloc_heap_new w _)); have Z2 := Ext.heap hE (heap_top (n := w.heap.size + 1) (by simp)); obtain ⟨r0, r1, r2, r3, r4⟩ := row5 Z1; have rf := row_free Z1; obtain ⟨s0, s1, s2, s3, s4⟩ := row5 Z2; have sf := row_free Z2; have HZ2 := Lib.hid Z2; have HQ := Lib.hid (And.intro ho1 (And.intro ho2 hE)); clear Z1 Z2 hE ho1 ho2))
  obtain ⟨ho1, ho2, hE⟩ := HQ.out
  refine bodyPost_ret (v := .agg #[.int .u8 o.kd, .slice (some ⟨g', 0, none⟩) n c', .slice (some ⟨h', 0, none⟩) n d', .int .i64 o.at_, .int .u8 o.code]) (by simp [results, Try.results58, go_sem, *]) rfl ⟨⟨o, g', c', h', d'⟩, ?_, rfl, at_of_own HF.out HL.out HN.out (own7 ho1 (by simp)) (own7 ho2 (by simp)), ?_⟩
  · have hr : ¬ o.row = [] := HR.out
    simp only [if_neg hr, HL.out]
  · exact ((((((((Ext.of2 hE).setCell (p := ⟨w.heap.size, 1, none⟩) (Nat.le_refl _) _).setCell (p := ⟨w.heap.size, 2, none⟩) (Nat.le_refl _) _).setCell (p := ⟨w.heap.size + 1, 0, none⟩) (Nat.le_succ _) _).setCell (p := ⟨w.heap.size + 1, 1, none⟩) (Nat.le_succ _) _).setCell (p := ⟨w.heap.size + 1, 2, none⟩) (Nat.le_succ _) _).setCell (p := ⟨w.heap.size + 1, 3, none⟩) (Nat.le_succ _) _).setCell (p := ⟨w.heap.size + 1, 4, none⟩) (Nat.le_succ _) _)

set_option maxHeartbeats 4000000 in
set_option maxRecDepth 100000 in
theorem routs_eq (g c h d n : Nat) (xs ys : List OX) (w : World) (hn : n ≤ 1000) (hl : xs.length = n) (hl' : ys.length = n) (hd : xs.map OX.d = ys.map OX.d) (hx : OutRow w g xs) (hy : OutRow w h ys) :
    Calls Try.prog 55 #[.slice (some ⟨g, 0, none⟩) n c, .slice (some ⟨h, 0, none⟩) n d] w fun e w' => e = .returned (.bool true) ∧ Ext w w' := by
  have HX := Lib.hid (fun w' (hE : Ext w w') => hx.ext hE)
  have HY := Lib.hid (fun w' (hE : Ext w w') => hy.ext hE)
  have HD := Lib.hid hd
  have HL := Lib.hid (And.intro hl hl')
  have p1 : (n : Int) ≤ 1000 := by omega
  clear hx hy hd hl hl'
  go_enter Try.func55, Try.ntmps55
  go_wp2
  go_loopw [5] (fun i wr => ∃ j : Nat, j ≤ n ∧ i = .int .i64 j ∧ Ext w wr) (fun i _ => n - (intOf i).toNat)
  case atStart => exact ⟨0, Nat.zero_le _, rfl, Ext.refl _⟩
  case round =>
    obtain ⟨j, hj, rfl, hE⟩ := hrel
    by_cases hlt : j < n
    · have hjx : j < xs.length := by rw [HL.out.1]; exact hlt
      have hjy : j < ys.length := by rw [HL.out.2]; exact hlt
      have hgx : xs.getD j OX.zero = xs[j] := by rw [List.getD_eq_getElem?_getD, List.getElem?_eq_getElem hjx]; rfl
      have hgy : ys.getD j OX.zero = ys[j] := by rw [List.getD_eq_getElem?_getD, List.getElem?_eq_getElem hjy]; rfl
      have hxc := (HX.out _ hE).cell j hjx
      have hyc := (HY.out _ hE).cell j hjy
      have hxa := (HX.out _ hE).at_ (xs.getD j OX.zero) (by rw [hgx]; exact List.getElem_mem hjx)
      have hya := (HY.out _ hE).at_ (ys.getD j OX.zero) (by rw [hgy]; exact List.getElem_mem hjy)
      have hdd : (xs.getD j OX.zero).d = (ys.getD j OX.zero).d := by
        have e1 : (xs.map OX.d)[j]? = (ys.map OX.d)[j]? := by rw [HD.out]
        rw [List.getElem?_map, List.getElem?_map, List.getElem?_eq_getElem hjx, List.getElem?_eq_getElem hjy] at e1
        rw [hgx, hgy]
        simpa using e1
      clear hgx hgy
      generalize xs.getD j OX.zero = x at *
      generalize ys.getD j OX.zero = y at *
      have c0 : wr.cell? ⟨g, j * 5, none⟩ = some (.int .u8 x.d.kd) := hxc 0 _ rfl
      have c1 : wr.cell? ⟨g, j * 5 + 1, none⟩ = some x.rowV := hxc 1 _ rfl
      have c2 : wr.cell? ⟨g, j * 5 + 2, none⟩ = some x.evsV := hxc 2 _ rfl
      have c3 : wr.cell? ⟨g, j * 5 + 3, none⟩ = some (.int .i64 x.d.at_) := hxc 3 _ rfl
      have c4 : wr.cell? ⟨g, j * 5 + 4, none⟩ = some (.int .u8 x.d.code) := hxc 4 _ rfl
      have d0 : wr.cell? ⟨h, j * 5, none⟩ = some (.int .u8 y.d.kd) := hyc 0 _ rfl
      have d1 : wr.cell? ⟨h, j * 5 + 1, none⟩ = some y.rowV := hyc 1 _ rfl
      have d2 : wr.cell? ⟨h, j * 5 + 2, none⟩ = some y.evsV := hyc 2 _ rfl
      have d3 : wr.cell? ⟨h, j * 5 + 3, none⟩ = some (.int .i64 y.d.at_) := hyc 3 _ rfl
      have d4 : wr.cell? ⟨h, j * 5 + 4, none⟩ = some (.int .u8 y.d.code) := hyc 4 _ rfl
      have H81 := Lib.hid (fun w' (hE : Ext wr w') => rout_eq x y hdd w' (hxa.ext hE) (hya.ext hE))
      obtain ⟨A, A', m, c', m', c'', h1, h2⟩ := x.val_form
      obtain ⟨B, B', q, d', q', d'', k1, k2⟩ := y.val_form
      rw [h1] at c1
      rw [h2] at c2
      rw [k1] at d1
      rw [k2] at d2
      simp only [OX.val, h1, h2, k1, k2] at H81
      have HE := Lib.hid hE
      clear hxc hyc hxa hya hdd h1 h2 k1 k2 hE hjx hjy
      have p2 : (j : Int) < (n : Int) := by omega
      have p3 : (0 : Int) ≤ (j : Int) := by omega
      go_wp2_with fail
      have H81x := Lib.hid (fun x => Calls.mix_of (H81.out (mix wr x) (mix_below wr x)))
      refine wp_region_mix (by kernel_rfl) (by kernel_rfl) ?_
      repeat (first | go_big_quiet_step ((go_at_call 81; with_reducible exact H81x.out _)) | quiet_step ((go_at_call 81; with_reducible exact H81x.out _)))
      refine wpQuiet_nil ?_
      rintro _ ⟨x, rfl⟩
      have hmix := Lib.hid (mix_below wr x)
      go_wp2_with fail
      go_round
      case rel => exact ⟨j + 1, by omega, by go_num, HE.out.trans hmix.out⟩
      case measure => simp [intOf]; omega
    · have HE := Lib.hid hE
      clear hE
      go_wp2
      go_ret
      exact ⟨rfl, HE.out⟩

/-- The law's own match. -/
def ev28 : EvD := ⟨9, 1, 0, 3, -1, 2⟩
def m28 : OutD := ⟨1, [2], [ev28], 0, 0⟩
def s28 : OutD := ⟨3, [], [], 258, 4⟩
def z28 : OutD := ⟨0, [], [], 0, 0⟩
def k28 : OutD := ⟨1, [], [], 0, 0⟩
theorem fit_m28 : m28.Fit := .told (.inl rfl) rfl rfl (by decide) (by decide) rfl (fun e he => by rw [List.mem_singleton.1 he]; exact ⟨by decide, by decide⟩)
theorem fit_s28 : s28.Fit := .side rfl rfl rfl (by decide) (by decide) (by decide) (by decide)
theorem fit_z28 : z28.Fit := .none (.inl rfl) rfl rfl rfl rfl
theorem fit_k28 : k28.Fit := .none (.inr rfl) rfl rfl rfl rfl
theorem right_m28 : m28.right = true := by kernel_rfl
theorem right_s28 : s28.right = true := by kernel_rfl
theorem right_z28 : z28.right = false := by kernel_rfl
theorem right_k28 : k28.right = false := by kernel_rfl
theorem bytes_s28 : s28.bytes = [3, 0, 0, 1, 2, 4] := by kernel_rfl
theorem take_ms28 : takeO (m28.bytes ++ s28.bytes) = ([m28, s28], 0) := by kernel_rfl
theorem take_728 : takeO [7] = ([], 11) := by kernel_rfl
theorem len_ms28 : (m28.bytes ++ s28.bytes).length = 29 := by kernel_rfl
theorem take_cut28 : (takeO ((m28.bytes ++ s28.bytes).take 28)).2 = 50 := by kernel_rfl

end Go.Proofs.Ytcbneobdelbhlaa
