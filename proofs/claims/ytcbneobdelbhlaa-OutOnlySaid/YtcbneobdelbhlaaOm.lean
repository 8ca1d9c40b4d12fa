/-
  Package out: first, of bytes of the side.
-/
import Derived.Test.YtcbneobdelbhlaaOl
namespace Go.Proofs.Ytcbneobdelbhlaa
open Go.RowKit Go.Shelf
attribute [local go_sem] Oper.semAt_some

theorem OutD.bytes_byte {o : OutD} (h : o.Fit) : ∀ z ∈ o.bytes, 0 ≤ z ∧ z ≤ 255 := by
  have hB : ∀ (x : Int) (k : Nat), ∀ z ∈ bytesOf x k, 0 ≤ z ∧ z ≤ 255 := fun x k => bytesOf_byte
  rcases h with ⟨k, r, e, _, _, c0, c1⟩ | ⟨k, r, e, a, c⟩ | ⟨k, a, c, r1, r2, e, hin⟩
  · intro z hz
    simp only [OutD.bytes, OutD.parts, k, if_true, partsS, List.mem_flatten, List.mem_cons, List.not_mem_nil, or_false] at hz
    obtain ⟨l, rfl | rfl | rfl, hz⟩ := hz
    · rw [List.mem_singleton] at hz; omega
    · exact hB _ _ z hz
    · rw [List.mem_singleton] at hz; omega
  all_goals
    intro z hz
    have hn : ¬ o.kd = 3 := by omega
    simp only [OutD.bytes, OutD.parts, if_neg hn, partsM, List.mem_flatten, List.mem_cons, List.mem_append, List.mem_map] at hz
    obtain ⟨l, rfl | rfl | ⟨y, _, rfl⟩ | ⟨y, _, rfl⟩, hz⟩ := hz
    · simp at hz; omega
    · exact hB _ _ z hz
    · exact hB _ _ z hz
    · exact EvD.bytes_byte _ z hz

theorem Conv.of_own {W : World} {base n : Nat} {v : Value} {zs : List Int} (h : W.ownsRow base 5 1 v n (zs.map (Value.int .u8))) (hb : ∀ x ∈ zs, 0 ≤ x ∧ x ≤ 255) : Conv W v zs := by
  have hl : zs.length = n := by have := h.1; simpa using this
  by_cases hn : 0 < n
  · obtain ⟨g, cap, rfl, _, _, _, _, hr⟩ := row_of_owns h hn hb
    exact Conv.of_row hr hl
  · have : zs = [] := List.length_eq_zero_iff.1 (by omega)
    subst this
    rcases h.2 with ⟨rfl, _⟩ | ⟨g, cap, _, rfl, _⟩
    · exact Conv.zero _ _ _
    · simp at hl; subst hl; exact Conv.zero _ _ _

theorem outRow_one {W : World} {g : Nat} {x : OX} (hA : x.At W) (hg : W.heap[g]? = some (.cells x.cells.toArray 64 (0, 0))) : OutRow W g [x] := by
  refine ⟨fun y hy => by rw [List.mem_singleton] at hy; subst hy; exact hA, fun i hi j u hj => ?_⟩
  obtain rfl : i = 0 := by simpa using hi
  rw [cell_of_row _ _ _ _ _ _ hg]
  simpa using hj

theorem put_one (g : Nat) (x : OX) (w : World) (hA : x.At w) (hg : w.heap[g]? = some (.cells x.cells.toArray 64 (0, 0))) (hr : x.d.right = true) :
    Calls Try.prog 31 #[.slice (some ⟨g, 0, none⟩) 1 1] w fun e w' => ∃ A n c, e = .returned (.tuple #[.slice A n c, .int .i64 0]) ∧ Conv w' (.slice A n c) x.d.bytes ∧ Ext w w' := by
  refine (put_core g 1 [x] (by simp) w (outRow_one hA hg)).mono ?_
  rintro e w' ⟨v, er, rfl, h1, _, hE⟩
  obtain ⟨rfl, hown⟩ := h1 (by simp [hr])
  have hb : bytesAll [x] = x.d.bytes := by simp [bytesAll]
  rw [hb] at hown
  have hC := Conv.of_own hown (OutD.bytes_byte hA.fit)
  obtain ⟨A, n, c, rfl⟩ : ∃ A n c, v = .slice A n c := by rcases hown.2 with ⟨rfl, _⟩ | ⟨g, c, _, rfl, _⟩ <;> exact ⟨_, _, _, rfl⟩
  exact ⟨A, n, c, rfl, hC, hE⟩

theorem put_one_no (g : Nat) (x : OX) (w : World) (hA : x.At w) (hg : w.heap[g]? = some (.cells x.cells.toArray 64 (0, 0))) (hr : x.d.right = false) :
    Calls Try.prog 31 #[.slice (some ⟨g, 0, none⟩) 1 1] w fun e w' => e = .returned (.tuple #[.slice none 0 0, .int .i64 2]) ∧ Ext w w' := by
  refine (put_core g 1 [x] (by simp) w (outRow_one hA hg)).mono ?_
  rintro e w' ⟨v, er, rfl, _, h2, hE⟩
  obtain ⟨rfl, rfl⟩ := h2 (by simp [hr])
  exact ⟨rfl, hE⟩

theorem numOf4 (l : List Int) (h4 : l.length ≤ 4) (hb : ∀ x ∈ l, 0 ≤ x ∧ x ≤ 255) : 0 ≤ numOf l ∧ numOf l < 4294967296 := by
  obtain ⟨h0, h1⟩ := numOf_bd l hb
  have h2 : l.length = 0 ∨ l.length = 1 ∨ l.length = 2 ∨ l.length = 3 ∨ l.length = 4 := by omega
  rcases h2 with h | h | h | h | h <;> rw [h] at h1
  all_goals
    simp at h1
    omega

theorem heap_up {W : World} {k : Nat} {o o' : Obj} (h : W.heap[k]? = some o) : (W.alloc o').heap[k]? = some o := Ext.heap ((Ext.refl W).alloc _) h
theorem heap_dr {W : World} {k : Nat} {o : Obj} (h : W.heap[k]? = some o) : W.drew.heap[k]? = some o := h

/-- What first tells. -/
def FirstR (w : World) (zs : List Int) (b off cap : Nat) (e : Ending) (w' : World) : Prop :=
  match firstD zs with
  | .inl er => e = .returned (.tuple #[zout, .slice none 0 0, .int .i64 er]) ∧ Ext w w'
  | .inr (o, n) => ∃ (x : OX) (A : Option Addr), x.d = o ∧ x.At w' ∧ e = .returned (.tuple #[x.val, .slice A (zs.length - n) (cap - n), .int .i64 0]) ∧ (0 < zs.length - n → A = some ⟨b, off + n, none⟩) ∧ Ext w w'

theorem firstD_no {zs : List Int} {n : Nat} (h : headD zs = (0, n)) (hl : n ≤ zs.length) (hr : (decO zs).right = true → (decO zs).bytes ≠ zs.take n) : firstD zs = .inl 11 := by
  unfold firstD
  rw [h, if_neg (by simp), if_neg (by simp only; omega), if_neg (fun hh => hr hh.1 hh.2)]
theorem firstD_yes {zs : List Int} {n : Nat} (h : headD zs = (0, n)) (hl : n ≤ zs.length) (hr : (decO zs).right = true) (hb : (decO zs).bytes = zs.take n) : firstD zs = .inr (decO zs, n) := by
  unfold firstD
  rw [h, if_neg (by simp), if_neg (by simp only; omega), if_pos ⟨hr, hb⟩]

theorem FirstR.no {w w' : World} {zs : List Int} {b off cap : Nat} {er : Int} (h : firstD zs = .inl er) (hE : Ext w w') : FirstR w zs b off cap (.returned (.tuple #[zout, .slice none 0 0, .int .i64 er])) w' := by
  unfold FirstR
  rw [h]
  exact ⟨rfl, hE⟩
theorem FirstR.yes {w w' : World} {zs : List Int} {b off cap n m c : Nat} {o : OutD} {x : OX} {A : Option Addr} {v : Value} (h : firstD zs = .inr (o, n)) (hx : x.d = o) (hA : x.At w') (hv : x.val = v) (hm : zs.length - n = m) (hc : cap - n = c) (hr : 0 < m → A = some ⟨b, off + n, none⟩) (hE : Ext w w') :
    FirstR w zs b off cap (.returned (.tuple #[v, .slice A m c, .int .i64 0])) w' := by
  unfold FirstR
  rw [h]
  subst hm hc hv
  exact ⟨x, A, hx, hA, rfl, hr, hE⟩

set_option maxHeartbeats 8000000 in
set_option maxRecDepth 100000 in
theorem first_side (b off n cap : Nat) (l : List Int) (w : World) (hn : l.length + 1 = n) (h6 : 6 ≤ n) (hrow : Row w b off (3 :: l)) (hcap : n ≤ cap) (hmax : cap ≤ maxLen) :
    Calls Try.prog 59 #[.slice (some ⟨b, off, none⟩) n cap] w (FirstR w (3 :: l) b off cap) := by
  have h0 : w.cell? ⟨b, off, none⟩ = some (.int .u8 3) := hrow.cell 0 (by simp)
  have h5 : w.cell? ⟨b, off + 5, none⟩ = some (.int .u8 (l.getD 4 0)) := hrow.cell 5 (by simp; omega)
  have HR4 := Lib.hid (show Row w b (off + 1) (l.take 4) from ⟨fun i hi => by
      have hi4 : i < 4 ∧ i < l.length := by rw [List.length_take] at hi; omega
      have := hrow.cell (i + 1) (by simp; omega)
      rw [show off + 1 + i = off + (i + 1) by omega, this]
      simp [List.getD_eq_getElem?_getD, hi4.1], fun x hx => hrow.byte x (List.mem_cons_of_mem _ (List.mem_of_mem_take hx))⟩)
  have HB := Lib.hid (show ∀ x ∈ l, 0 ≤ x ∧ x ≤ 255 from fun x hx => hrow.byte x (List.mem_cons_of_mem _ hx))
  have HRow := Lib.hid hrow
  have HK : Hid (¬ ((3 : Int) = 1 ∨ (3 : Int) = 2)) := Lib.hid (by decide)
  have HN := Lib.hid hn
  have HC := Lib.hid (And.intro hcap hmax)
  have p1 : (1 : Int) ≤ (n : Int) := by omega
  have p2 : (0 : Int) < (n : Int) := by omega
  have p3 : ¬ (n : Int) < 6 := by omega
  have p4 : (6 : Int) ≤ (n : Int) := by omega
  have p5 : (6 : Int) ≤ (cap : Int) := by omega
  have p6 : (n : Int) ≤ (cap : Int) := by omega
  have p7 : 6 ≤ cap := by omega
  have hb : b < w.heap.size := by obtain ⟨o, ho, _⟩ := cells_of_cell h0; exact heap_lt ho
  have b0 : ¬ b = w.heap.size := by omega
  have b1 : ¬ b = w.heap.size + 1 := by omega
  have b2 : ¬ b = w.heap.size + 1 + 1 := by omega
  have b3 : b < w.heap.size + 1 := by omega
  have b4 : b < w.heap.size + 1 + 1 := by omega
  have HT : Hid (∀ W, Row W b (off + 1) (l.take 4) → Calls Try.prog 42 #[.slice (some ⟨b, off + 1, none⟩) 4 (cap - 1)] W fun e w' => e = .returned (.int .i64 (numOf (l.take 4))) ∧ W = w') := Lib.hid fun W hW => by
    have hl4 : (l.take 4).length = 4 := by rw [List.length_take]; omega
    have := take_any b (off + 1) (cap - 1) (l.take 4) W hW (by omega) (by omega) (by omega) (by omega)
    rwa [hl4] at this
  clear hrow hn hcap hmax
  have hatb : 0 ≤ numOf (l.take 4) ∧ numOf (l.take 4) < 4294967296 := numOf4 (l.take 4) (by rw [List.length_take]; omega) fun x hx => HB.out x (List.mem_of_mem_take hx)
  have HCD : Hid (0 ≤ l.getD 4 0 ∧ l.getD 4 0 ≤ 255) := Lib.hid (by
    rw [List.getD_eq_getElem?_getD, List.getElem?_eq_getElem (by have := HN.out; omega)]
    exact HB.out _ (List.getElem_mem _))
  generalize hat : numOf (l.take 4) = at_ at *
  have HAT := Lib.hid hatb
  clear hatb
  generalize hcd : l.getD 4 0 = cd at *
  go_enter Try.func59, Try.ntmps59
  go_wp2
  refine wp_scope_goto 0 rfl ?_
  go_wp2_with (go_at_call 62; refine (told_false HK.out _).mono ?_; rintro e w1 ⟨rfl, rfl⟩)
  go_region_with (first
    | (go_at_call_of 84 (Value.int .i64 4); refine (next_any _ _ b off 1 4 n cap 1 4 5 (off + 1) (cap - 1) rfl rfl rfl rfl rfl _ (by simp [go_sem]) (by simp [go_sem]) (by simp [go_sem]) (by omega) (by omega) (by omega) HC.out.1 HC.out.2).mono ?_; rintro e w1 ⟨rfl, rfl⟩)
    | (go_at_call_of 84 (Value.int .i64 1); refine (next_any _ _ b off 5 1 n cap 5 1 6 (off + 5) (cap - 5) rfl rfl rfl rfl rfl _ (by simp [go_sem]) (by simp [go_sem]) (by simp [go_sem]) (by omega) (by omega) (by omega) HC.out.1 HC.out.2).mono ?_; rintro e w1 ⟨rfl, rfl⟩)
    | (go_at_call 42; refine (HT.out _ (by refine Ext.row ?_ HR4.out; repeat (first | exact Below.refl _ _ | refine Below.setCell ?_ (by simp) _ | refine Below.drew ?_ | refine Below.alloc ?_ (by first | (simp; done) | (simp; omega)) _))).mono ?_; rintro e w1 ⟨rfl, rfl⟩))
  all_goals
    obtain ⟨x, hx⟩ : ∃ x : OX, x = ⟨⟨3, [], [], at_, cd⟩, 0, 0, 0, 0⟩ := ⟨_, rfl⟩
    have hcells : x.cells = [.int .u8 3, .slice none 0 0, .slice none 0 0, .int .i64 at_, .int .u8 cd] := by subst hx; rfl
    have hval : x.val = .agg #[.int .u8 3, .slice none 0 0, .slice none 0 0, .int .i64 at_, .int .u8 cd] := by subst hx; rfl
    have HXA : Hid (∀ W, x.At W) := Lib.hid fun W => by
      subst hx
      exact ⟨.side rfl rfl rfl HAT.out.1 HAT.out.2 HCD.out.1 HCD.out.2, fun i hi => by simp at hi, fun i hi => by simp at hi, fun h => absurd rfl h⟩
    have HXD : Hid (x.d = decO (3 :: l)) := Lib.hid (by subst hx; simp only [decO, if_true]; rw [hat, hcd])
    have HXC := Lib.hid (And.intro hcells hval)
    clear hx hcells hval
    cases hrt : x.d.right
    · have HRT := Lib.hid hrt
      clear hrt
      go_wp2_with (go_at_call 31; refine (put_one_no _ x _ (HXA.out _) (by rw [HXC.out.1]; exact heap_top (by simp)) HRT.out).mono ?_; rintro e w1 ⟨rfl, hE⟩; have q2 := hE.heap (k := w.heap.size + 1) (heap_dr (heap_up (heap_up (heap_top (by simp))))); have T := Lib.hid ((((((Ext.refl w).alloc _).alloc _).alloc _).alloc _).drew.trans hE); obtain ⟨r0, r1, r2, r3, r4⟩ := row5 q2; have rf := row_free q2; clear hE q2)
      go_step3
      go_wp2
      rw [jump_ret]
      refine bodyPost_ret (v := .tuple #[zout, .slice none 0 0, .int .i64 11]) (by simp [results, Try.results59, go_sem, zout, *]) rfl (FirstR.no (firstD_no (headD_side l) (by have := HN.out; simp; omega) (fun h => ?_)) (set5 T.out (Nat.le_succ _) _ _ _ _ _))
      rw [← HXD.out, HRT.out] at h
      cases h
    · have HRT := Lib.hid hrt
      clear hrt
      have HRB : Hid (Row w b off ((3 :: l).take 6)) := Lib.hid ⟨fun i hi => by
        have hi6 : i < 6 ∧ i < (3 :: l).length := by rw [List.length_take] at hi; omega
        rw [HRow.out.cell i hi6.2, List.getD_eq_getElem?_getD, List.getD_eq_getElem?_getD, List.getElem?_take, if_pos hi6.1], fun x hx => HRow.out.byte x (List.mem_of_mem_take hx)⟩
      have HL6 : Hid (((3 :: l).take 6).length = 6) := Lib.hid (by have := HN.out; rw [List.length_take, List.length_cons]; omega)
      by_cases heq : x.d.bytes = (3 :: l).take 6
      · have HEQ := Lib.hid heq
        clear heq
        go_wp2_with (first
          | (go_at_call 31; refine (put_one _ x _ (HXA.out _) (by rw [HXC.out.1]; exact heap_top (by simp)) HRT.out).mono ?_; rintro e w1 ⟨A1, n1, c1, rfl, hCv, hE⟩; have q1 := hE.heap (k := w.heap.size) (heap_dr (heap_up (heap_up (heap_up (World.alloc_heap_new w _))))); have q2 := hE.heap (k := w.heap.size + 1) (heap_dr (heap_up (heap_up (heap_top (by simp))))); have T := Lib.hid ((((((Ext.refl w).alloc _).alloc _).alloc _).alloc _).drew.trans hE); have q0 := cell_of_one q1; have HCv := Lib.hid hCv; obtain ⟨r0, r1, r2, r3, r4⟩ := row5 q2; have rf := row_free q2; have HQ2 := Lib.hid q2; clear hE q1 q2 hCv)
          | (go_at_call 85; refine (bequal_any _ _ _ _ _ _ x.d.bytes ((3 :: l).take 6) _ HCv.out (Conv.of_row (T.out.row HRB.out) HL6.out) (OutD.bytes_byte (HXA.out w).fit) HRB.out.byte).mono ?_; rintro e w2 ⟨rfl, rfl⟩; rw [decide_eq_true HEQ.out]))
        by_cases hc6 : cap = 6
        · have hn6 : n = 6 := by omega
          subst hc6 hn6
          go_region
          all_goals
            go_wp2
            rw [jump_ret]
            refine bodyPost_ret (v := .tuple #[.agg #[.int .u8 3, .slice none 0 0, .slice none 0 0, .int .i64 at_, .int .u8 cd], .slice _ 0 0, .int .i64 0]) (by simp [results, Try.results59, go_sem, *]; rfl) rfl
              (FirstR.yes (x := x) (firstD_yes (headD_side l) (by have := HN.out; simp; omega) (by rw [← HXD.out, HRT.out]) (by rw [← HXD.out, HEQ.out])) HXD.out (HXA.out _) HXC.out.2 (by have := HN.out; simp; omega) (by omega) (fun h => absurd h (by omega)) (set5 T.out (Nat.le_succ _) _ _ _ _ _).drew)
        · have c6 : ¬ (6 = cap) := fun e => hc6 e.symm
          go_region
          all_goals
            go_wp2
            rw [jump_ret]
            refine bodyPost_ret (v := .tuple #[.agg #[.int .u8 3, .slice none 0 0, .slice none 0 0, .int .i64 at_, .int .u8 cd], .slice (some ⟨b, off + 6, none⟩) (n - 6) (cap - 6), .int .i64 0]) (by simp [results, Try.results59, go_sem, *]) rfl
              (FirstR.yes (x := x) (firstD_yes (headD_side l) (by have := HN.out; simp; omega) (by rw [← HXD.out, HRT.out]) (by rw [← HXD.out, HEQ.out])) HXD.out (HXA.out _) HXC.out.2 (by have := HN.out; simp; omega) rfl (fun _ => rfl) (set5 T.out (Nat.le_succ _) _ _ _ _ _).drew)
      · have HEQ := Lib.hid heq
        clear heq
        go_wp2_with (first
          | (go_at_call 31; refine (put_one _ x _ (HXA.out _) (by rw [HXC.out.1]; exact heap_top (by simp)) HRT.out).mono ?_; rintro e w1 ⟨A1, n1, c1, rfl, hCv, hE⟩; have q1 := hE.heap (k := w.heap.size) (heap_dr (heap_up (heap_up (heap_up (World.alloc_heap_new w _))))); have q2 := hE.heap (k := w.heap.size + 1) (heap_dr (heap_up (heap_up (heap_top (by simp))))); have T := Lib.hid ((((((Ext.refl w).alloc _).alloc _).alloc _).alloc _).drew.trans hE); have q0 := cell_of_one q1; have HCv := Lib.hid hCv; obtain ⟨r0, r1, r2, r3, r4⟩ := row5 q2; have rf := row_free q2; have HQ2 := Lib.hid q2; clear hE q1 q2 hCv)
          | (go_at_call 85; refine (bequal_any _ _ _ _ _ _ x.d.bytes ((3 :: l).take 6) _ HCv.out (Conv.of_row (T.out.row HRB.out) HL6.out) (OutD.bytes_byte (HXA.out w).fit) HRB.out.byte).mono ?_; rintro e w2 ⟨rfl, rfl⟩; rw [decide_eq_false HEQ.out]))
        go_step3
        go_wp2
        rw [jump_ret]
        refine bodyPost_ret (v := .tuple #[zout, .slice none 0 0, .int .i64 11]) (by simp [results, Try.results59, go_sem, zout, *]) rfl (FirstR.no (firstD_no (headD_side l) (by have := HN.out; simp; omega) (fun _ h => HEQ.out (by rw [HXD.out]; exact h))) (set5 T.out (Nat.le_succ _) _ _ _ _ _))

end Go.Proofs.Ytcbneobdelbhlaa
