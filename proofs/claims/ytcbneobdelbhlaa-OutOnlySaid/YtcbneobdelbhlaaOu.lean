/-
  Package out: first, of any bytes.
  Package out: Take, of any bytes.
  OutOnly's walk.
-/
import Derived.Test.YtcbneobdelbhlaaOp
namespace Go.Proofs.Ytcbneobdelbhlaa
open Go.RowKit Go.Shelf

theorem firstD_head {zs : List Int} {e : Int} {n : Nat} (h : headD zs = (e, n)) (he : e ≠ 0) : firstD zs = .inl e := by
  unfold firstD
  rw [h, if_pos (by simpa using he)]
theorem firstD_len {zs : List Int} {n : Nat} (h : headD zs = (0, n)) (hl : zs.length < n) : firstD zs = .inl 50 := by
  unfold firstD
  rw [h, if_neg (by simp), if_pos hl]

theorem first_any (b off n cap : Nat) (zs : List Int) (w : World) (hn : zs.length = n) (h1 : 1 ≤ n) (hrow : Row w b off zs) (hcap : n ≤ cap) (hmax : cap ≤ maxLen) :
    Calls Try.prog 59 #[.slice (some ⟨b, off, none⟩) n cap] w (FirstR w zs b off cap) := by
  match zs, hn, hrow with
  | [], hn, _ => simp at hn; omega
  | k :: l, hn, hrow =>
    have h0 : w.cell? ⟨b, off, none⟩ = some (.int .u8 k) := hrow.cell 0 (by simp)
    by_cases h3 : k = 3
    · subst h3
      by_cases h6 : n < 6
      · refine (first_cut3 b off n cap w h1 h6 h0).mono ?_
        rintro e w' ⟨rfl, hE⟩
        exact FirstR.no (firstD_len (headD_side l) (by omega)) hE
      · exact first_side b off n cap l w (by simpa using hn) (by omega) hrow hcap hmax
    · by_cases hk : k = 1 ∨ k = 2
      · match l, hn, hrow with
        | [], hn, _ =>
          refine (first_one k b off n cap w hk (by simpa using hn.symm) h0).mono ?_
          rintro e w' ⟨rfl, hE⟩
          exact FirstR.no (firstD_head (n := 0) (by simp [headD, h3, hk]) (by decide)) hE
        | m :: l, hn, hrow =>
          have hm0 : w.cell? ⟨b, off + 1, none⟩ = some (.int .u8 m) := hrow.cell 1 (by simp)
          have hm := hrow.byte m (by simp)
          have h2 : 2 ≤ n := by simp at hn; omega
          by_cases hz : m = 0
          · refine (first_low k m b off n cap w hk h2 h0 hm0 hz).mono ?_
            rintro e w' ⟨rfl, hE⟩
            exact FirstR.no (firstD_head (n := 0) (by simp [headD, h3, hk, hz]) (by decide)) hE
          · by_cases h4 : 4 < m
            · refine (first_high k m b off n cap w hk h2 h0 hm0 h4).mono ?_
              rintro e w' ⟨rfl, hE⟩
              exact FirstR.no (firstD_head (n := 0) (by simp [headD, h3, hk, h4]) (by decide)) hE
            · have hh := headD_match k m l hk (by omega) (by omega)
              by_cases hs : (n : Int) < 2 + 21 * m
              · refine (first_cut k m b off n cap w hk h2 h0 hm0 (by omega) (by omega) hs).mono ?_
                rintro e w' ⟨rfl, hE⟩
                exact FirstR.no (firstD_len hh (by omega)) hE
              · obtain ⟨M, rfl⟩ := Int.eq_ofNat_of_zero_le hm.1
                exact first_match b off n cap M k l w hk (by omega) (by omega) (by simp at hn; omega) (by omega) hrow hcap hmax
      · refine (first_kind k b off n cap w hk h3 h1 h0).mono ?_
        rintro e w' ⟨rfl, hE⟩
        exact FirstR.no (firstD_head (n := 0) (by simp [headD, h3, hk]) (by decide)) hE

end Go.Proofs.Ytcbneobdelbhlaa

namespace Go.Proofs.Ytcbneobdelbhlaa
open Go.RowKit Go.Shelf

theorem info64 : (Try.prog.info? 64).map (fun i => (i.zero, i.size, i.bytes)) = some (some (.agg #[.int .u8 0, .slice none 0 0, .slice none 0 0, .int .i64 0, .int .u8 0]), 5, 72) := by kernel_rfl
theorem und55 : Try.prog.underlying 55 = some (.slice 64) := by kernel_rfl

def lenOf : Value → Nat
  | .slice _ n _ => n
  | _ => 0

theorem OX.oneCells (x : OX) : ∀ u ∈ x.cells, u.oneCell' = true := by
  intro u hu
  simp only [OX.cells, List.mem_cons, List.not_mem_nil, or_false] at hu
  rcases hu with rfl | rfl | rfl | rfl | rfl
  · rfl
  · unfold OX.rowV; split <;> rfl
  · unfold OX.evsV; split <;> rfl
  · rfl
  · rfl

/-- An append to a row of outs leaves the outs' own blocks. -/
theorem OX.At.grown {W w2 : World} {base n : Nat} {v : Value} {cs : List Value} {x : OX} (h : x.At W) (hown : W.ownsRow base 64 5 v n cs) (hg : W.grownBy w2 v.ownBlock) : x.At w2 := by
  by_cases hn : x.d.row = []
  · have he : x.d.evs = [] := by
      rcases h.fit with ⟨_, _, e, _, _, _, _⟩ | ⟨_, _, e, _, _⟩ | ⟨_, _, _, r1, _, _, _⟩
      · exact e
      · exact e
      · rw [hn] at r1; simp at r1
    exact ⟨h.fit, fun i hi => by rw [hn] at hi; simp at hi, fun i hi => by rw [he] at hi; simp at hi, fun h => absurd hn h⟩
  · obtain ⟨⟨cs1, h1⟩, ⟨cs2, h2⟩⟩ := h.blk hn
    have key : ∀ (q : Nat) (ds : Array Value) (t : TypeId), t ≠ 64 → W.heap[q]? = some (.cells ds t (0, 0)) → w2.heap[q]? = W.heap[q]? := by
      intro q ds t ht hq
      refine hg.block q (heap_lt hq) (fun e' => ?_)
      rcases hown.2 with ⟨rfl, _⟩ | ⟨g2, cap2, cur2, rfl, _, hh2, _⟩
      · simp [Value.ownBlock] at e'
      · have : g2 = q := by simpa [Value.ownBlock] using e'.symm
        subst this
        rw [hq] at hh2
        injection hh2 with hh2
        injection hh2 with _ hh2
        exact ht hh2
    have k1 := key _ _ _ (by decide) h1
    have k2 := key _ _ _ (by decide) h2
    refine ⟨h.fit, fun i hi => (World.cell?_of_block k1).trans (h.row i hi), fun i hi => ?_, fun _ => ⟨⟨cs1, k1.trans h1⟩, ⟨cs2, k2.trans h2⟩⟩⟩
    have e : ∀ j, w2.cell? ⟨x.b', j, none⟩ = W.cell? ⟨x.b', j, none⟩ := fun j => World.cell?_of_block k2
    rw [e, e, e, e, e]
    exact h.evs i hi

/-- What Take has told so far. -/
structure TakeS (w : World) (zs : List Int) (s : Nat) (xs : List OX) (v : Value) (W : World) : Prop where
  told : takeO zs = (xs.map OX.d ++ (takeO (zs.drop s)).1, (takeO (zs.drop s)).2)
  own : W.ownsRow w.heap.size 64 5 v xs.length (xs.flatMap OX.cells)
  at_ : ∀ x ∈ xs, x.At W
  below : Ext w W
  len : 6 * xs.length ≤ s

theorem TakeS.step {w W W1 w2 : World} {zs : List Int} {s n' m : Nat} {xs : List OX} {x : OX} {v v' : Value} {o o' : Obj} (h : TakeS w zs s xs v W) (hne : zs.drop s ≠ []) (hf : firstD (zs.drop s) = .inr (x.d, n')) (hE : Ext W W1) (hx : x.At W1) (hm : xs.length = m)
    (hown' : w2.ownsRow w.heap.size 64 5 v' (m + 1) (xs.flatMap OX.cells ++ x.cells)) (hg : ((W1.alloc o).alloc o').grownBy w2 v.ownBlock) : TakeS w zs (s + n') (xs ++ [x]) v' w2 := by
  have h6 := (firstD_inr hf).2.2.2.2.2.2
  have hE2 : Ext W ((W1.alloc o).alloc o') := (hE.alloc _).alloc _
  have hE3 : Ext W1 ((W1.alloc o).alloc o') := ((Ext.refl W1).alloc _).alloc _
  have ho := owns_ext h.own hE2
  refine ⟨?_, ?_, ?_, ?_, ?_⟩
  · rw [h.told, takeO_inr hne hf, List.drop_drop]
    simp
  · rw [List.length_append, List.flatMap_append, hm]
    have : [x].flatMap OX.cells = x.cells := by simp
    rw [this]
    exact hown'
  · intro y hy
    rcases List.mem_append.1 hy with hy | hy
    · exact ((h.at_ y hy).ext hE2).grown ho hg
    · rw [List.mem_singleton] at hy
      subst hy
      exact (hx.ext hE3).grown ho hg
  · exact Below.grown (h.below.trans hE2) hg (Below.size (h.below.trans hE2)) (fun q e => (ho.lt q e).1)
  · have := h.len
    simp
    omega

theorem row_drop {W : World} {b off : Nat} {zs : List Int} (h : Row W b off zs) (s : Nat) : Row W b (off + s) (zs.drop s) :=
  ⟨fun i hi => by
    rw [List.length_drop] at hi
    rw [show off + s + i = off + (s + i) by omega, h.cell (s + i) (by omega)]
    simp [List.getD_eq_getElem?_getD, List.getElem?_drop], fun x hx => h.byte x (List.mem_of_mem_drop hx)⟩

theorem FirstR.inl {w w' : World} {zs : List Int} {b off cap : Nat} {e : Ending} {er : Int} (h : FirstR w zs b off cap e w') (hf : firstD zs = .inl er) :
    e = .returned (.tuple #[.agg #[.int .u8 0, .slice none 0 0, .slice none 0 0, .int .i64 0, .int .u8 0], .slice none 0 0, .int .i64 er]) ∧ Ext w w' := by
  unfold FirstR at h
  rw [hf] at h
  exact h

theorem FirstR.inr {w w' : World} {zs : List Int} {b off cap : Nat} {e : Ending} {o : OutD} {n' : Nat} (h : FirstR w zs b off cap e w') (hf : firstD zs = .inr (o, n')) :
    ∃ (x : OX) (A1 A2 A' : Option Addr) (m1 c1 m2 c2 : Nat), x.rowV = .slice A1 m1 c1 ∧ x.evsV = .slice A2 m2 c2 ∧ x.d = o ∧ x.At w' ∧
      e = .returned (.tuple #[.agg #[.int .u8 x.d.kd, .slice A1 m1 c1, .slice A2 m2 c2, .int .i64 x.d.at_, .int .u8 x.d.code], .slice A' (zs.length - n') (cap - n'), .int .i64 0]) ∧
      (0 < zs.length - n' → A' = some ⟨b, off + n', none⟩) ∧ Ext w w' := by
  unfold FirstR at h
  rw [hf] at h
  obtain ⟨x, A', h1, h2, h3, h4, h5⟩ := h
  obtain ⟨A1, m1, c1, hA⟩ : ∃ A m c, x.rowV = .slice A m c := by unfold OX.rowV; split <;> exact ⟨_, _, _, rfl⟩
  obtain ⟨A2, m2, c2, hB⟩ : ∃ A m c, x.evsV = .slice A m c := by unfold OX.evsV; split <;> exact ⟨_, _, _, rfl⟩
  refine ⟨x, A1, A2, A', m1, c1, m2, c2, hA, hB, h1, h2, ?_, h4, h5⟩
  rw [h3, OX.val, hA, hB]

set_option maxHeartbeats 4000000 in
set_option maxRecDepth 100000 in
theorem otake_any (A0 : Option Addr) (b off n cap : Nat) (zs : List Int) (w : World) (hn : zs.length = n) (hm : n ≤ 3000) (hA0 : 0 < n → A0 = some ⟨b, off, none⟩) (hrow : Row w b off zs) (hcap : n ≤ cap) (hmax : cap ≤ maxLen) :
    Calls Try.prog 29 #[.slice A0 n cap] w fun e w' => ∃ (v : Value) (xs : List OX), e = .returned (.tuple #[v, .int .i64 (takeO zs).2]) ∧
      ((takeO zs).2 = 0 → xs.map OX.d = (takeO zs).1 ∧ w'.ownsRow w.heap.size 64 5 v xs.length (xs.flatMap OX.cells) ∧ ∀ x ∈ xs, x.At w') ∧ ((takeO zs).2 ≠ 0 → v = .slice none 0 0) ∧ Ext w w' := by
  have HN := Lib.hid hn
  have HRow := Lib.hid hrow
  have HC := Lib.hid (And.intro hcap hmax)
  obtain ⟨i0, hi, hz0, hz1, hz2⟩ := info_parts info64
  clear hrow hn
  go_enter Try.func29, Try.ntmps29
  go_wp2
  go_loopw [0, 2] (fun t v wr => ∃ (s : Nat) (xs : List OX) (A : Option Addr) (q r : Nat), q + s = n ∧ r + s = cap ∧ t = .slice A q r ∧ (0 < q → A = some ⟨b, off + s, none⟩) ∧ TakeS w zs s xs v wr) (fun t _ _ => lenOf t)
  case atStart => exact ⟨0, [], _, n, cap, rfl, rfl, rfl, hA0, ⟨by simp, World.ownsRow_nil _ _ _ _, fun x hx => (by cases hx), Ext.refl w, by simp⟩⟩
  case round =>
    obtain ⟨s, xs, A, q, r, hq, hr, rfl, hA, hS⟩ := hrel
    by_cases hlt : 0 < q
    · obtain rfl := hA hlt
      have hl : (zs.drop s).length = q := by rw [List.length_drop, HN.out]; omega
      have hne : zs.drop s ≠ [] := by intro h; rw [h] at hl; simp at hl; omega
      have HNe := Lib.hid hne
      have HLq := Lib.hid hl
      have H59 : Hid (∀ W, Ext w W → Calls Try.prog 59 #[.slice (some ⟨b, off + s, none⟩) q r] W (FirstR W (zs.drop s) b (off + s) r)) := Lib.hid fun W hW =>
        first_any b (off + s) q r (zs.drop s) W hl (by omega) (row_drop (hW.row HRow.out) s) (by omega) (by omega)
      have HS := Lib.hid hS
      have p1 : (0 : Int) < (q : Int) := by omega
      clear hS hA hl hne
      cases hf : firstD (zs.drop s) with
      | inl er =>
        have her : (er == 0) = false := by rcases firstD_inl hf with rfl | rfl <;> rfl
        have HF := Lib.hid hf
        clear hf
        go_wp2_with (go_at_call 59; refine (H59.out _ HS.out.below).mono ?_; intro e w1 hR; obtain ⟨rfl, hE⟩ := FirstR.inl hR HF.out; have T := Lib.hid (HS.out.below.trans hE); clear hR hE)
        go_ret2
        have e2 : (takeO zs).2 = er := by rw [HS.out.told, takeO_inl HNe.out HF.out]
        rw [e2]
        exact ⟨_, [], rfl, fun h => (by rw [h] at her; cases her), fun _ => rfl, T.out.alloc _⟩
      | inr p =>
        obtain ⟨o, n'⟩ := p
        have HF := Lib.hid hf
        have HL3 : Hid (xs.length ≤ 500) := Lib.hid (by have := HS.out.len; omega)
        clear hf
        generalize hxl : xs.length = m at *
        have HXL := Lib.hid hxl
        have HOwn : Hid (wr.ownsRow w.heap.size 64 5 u2 m (xs.flatMap OX.cells)) := Lib.hid (hxl ▸ HS.out.own)
        clear hxl
        have h64 : ∀ w1, Ext wr w1 → w.heap.size ≤ w1.heap.size := fun w1 h => Below.size (HS.out.below.trans h)
        have H64 := Lib.hid h64
        clear h64
        have m5 : m ≤ 500 := HL3.out
        have hnq : n' ≤ q ∧ 6 ≤ n' := by have := firstD_inr HF.out; rw [HLq.out] at this; exact ⟨this.2.2.2.1, this.2.2.2.2.2.2⟩
        have HNQ := Lib.hid hnq
        clear hnq
        go_wp2_with (first
          | (go_at_call 59; go_loud (refine (H59.out _ HS.out.below).mono ?_; intro e w1 hR; obtain ⟨x, A1, A2, A', m1, c1, m2, c2, hx1, hx2, hx3, hx4, rfl, hA', hE⟩ := FirstR.inr hR HF.out; rw [HLq.out] at hA' ⊢; have HX := Lib.hid (And.intro hx1 (And.intro hx2 (And.intro hx3 (And.intro hx4 (And.intro hA' hE))))); have HO1 := Lib.hid (owns_ext HOwn.out hE); have hs1 := H64.out _ hE; clear hR hx1 hx2 hx3 hx4 hA' hE))
          | (at_builtin; go_loud (refine wpList_append_own _ rfl (.tmp 19) (.tmp 21) 55 (by rfl) w.heap.size 64 i0 (.agg #[.int .u8 0, .slice none 0 0, .slice none 0 0, .int .i64 0, .int .u8 0]) 5 72 und55 hi hz0 hz1 hz2 rfl (by omega) u2 m (xs.flatMap OX.cells) (by rfl) ((HO1.out.alloc _).alloc _) ⟨w1.heap.size + 1, 0, none⟩ 1 1 [.int .u8 x.d.kd, .slice A1 m1 c1, .slice A2 m2 c2, .int .i64 x.d.at_, .int .u8 x.d.code] (by rfl) (by rfl) (news_at (by simp) 64 [.int .u8 x.d.kd, .slice A1 m1 c1, .slice A2 m2 c2, .int .i64 x.d.at_, .int .u8 x.d.code]) (by intro u hu; simp only [List.mem_cons, List.not_mem_nil, or_false] at hu; rcases hu with rfl | rfl | rfl | rfl | rfl <;> rfl) (by unfold maxLen; omega) (by omega) (by simp; omega) ?_; intro v2 w2 hown2 hg2 hnil2; obtain ⟨g2, cap2, rfl, _, _⟩ := hown2.form (by omega); have HS2 := Lib.hid (HS.out.step HNe.out (HX.out.2.2.1 ▸ HF.out) HX.out.2.2.2.2.2 HX.out.2.2.2.1 HXL.out (by rw [OX.cells, HX.out.1, HX.out.2.1]; exact hown2) hg2); clear hown2 hg2 hnil2)))
        have := HNQ.out
        exact ⟨⟨s + n', xs ++ [x], A', q - n', r - n', by omega, by omega, rfl, fun h => by rw [HX.out.2.2.2.2.1 h, Nat.add_assoc], HS2.out⟩, by show q - n' < q; omega⟩
    · have e0 : q = 0 := by omega
      subst e0
      have es : s = n := by omega
      have HS := Lib.hid hS
      have ht : takeO zs = (xs.map OX.d, 0) := by
        rw [hS.told, List.drop_of_length_le (by rw [HN.out]; omega), takeO_nil]
        simp
      clear hS hA
      go_wp2
      go_ret2
      rw [ht]
      exact ⟨_, xs, rfl, fun _ => ⟨rfl, HS.out.own, HS.out.at_⟩, fun h => absurd rfl h, HS.out.below⟩

end Go.Proofs.Ytcbneobdelbhlaa

namespace Go.Proofs.Ytcbneobdelbhlaa
open Go.RowKit Go.Shelf

theorem flat_get {α β : Type} (f : α → List β) (k : Nat) (hf : ∀ a, (f a).length = k) (d : α) : ∀ (l : List α) (i : Nat), i < l.length → ∀ t, t < k → (l.flatMap f)[i * k + t]? = (f (l.getD i d))[t]?
  | [], i, h, _, _ => by simp at h
  | e :: l, 0, _, t, ht => by
    rw [List.flatMap_cons, List.getElem?_append_left (by rw [hf]; omega)]
    simp
  | e :: l, i + 1, h, t, ht => by
    have := flat_get f k hf d l i (by simpa using h) t ht
    have e1 : (i + 1) * k + t = k + (i * k + t) := by rw [Nat.add_mul]; omega
    rw [List.flatMap_cons, List.getElem?_append_right (by rw [hf]; omega), hf, e1, Nat.add_sub_cancel_left, this]
    simp

theorem outRow_of_own {W : World} {base g m c : Nat} {xs : List OX} (h : W.ownsRow base 64 5 (.slice (some ⟨g, 0, none⟩) m c) m (xs.flatMap OX.cells)) (hl : xs.length = m) (hA : ∀ x ∈ xs, x.At W) : OutRow W g xs := by
  refine ⟨hA, fun i hi j u hj => ?_⟩
  have h5 : j < 5 := by have := (List.getElem?_eq_some_iff.1 hj).1; simpa [OX.cells] using this
  rw [h.cellAt (i * 5 + j) (by omega), flat_get OX.cells 5 (fun _ => rfl) OX.zero xs i hi j h5]
  exact hj

set_option maxHeartbeats 1000000 in
theorem put_nil (A : Option Addr) (c : Nat) (w : World) : Calls Try.prog 31 #[.slice A 0 c] w fun e w' => e = .returned (.tuple #[.slice none 0 0, .int .i64 0]) ∧ Ext w w' := by
  refine calls_of_wp_m Try.func31 rfl ?_
  simp only [Try.ntmps31, List.size_toArray, List.length_cons, List.length_nil, Nat.reduceAdd, Nat.reduceSub, Array.replicate_succ, Array.replicate_zero, List.push_toArray, List.append_toArray, List.nil_append, List.cons_append]
  go_wp2
  refine wp_loop (fun a W => a = { tmps := #[.slice A 0 c, undef, .slice none 0 0, .int .i64 0, .pointer (some ⟨w.heap.size, 0, none⟩), undef, undef, undef, .slice A 0 c, .int .i64 0, .int .i64 0, undef, undef, undef, undef, undef, undef, undef, undef, undef, undef, undef, undef, undef, undef], defers := [] } ∧ W = w.alloc (.cells #[.slice none 0 0] 30)) (fun _ _ => 0) ⟨rfl, rfl⟩ ?_
  rintro a W ⟨rfl, rfl⟩
  go_wp2
  exact postM_ret0 (v := .tuple #[.slice none 0 0, .int .i64 0]) (by simp [results, Try.results31, go_sem]) ⟨rfl, (Ext.refl w).alloc _⟩

theorem put_list (base : Nat) (A : Option Addr) (m c : Nat) (xs : List OX) (W : World) (hown : W.ownsRow base 64 5 (.slice A m c) m (xs.flatMap OX.cells)) (hl : xs.length = m) (hA : ∀ x ∈ xs, x.At W) (hm : m ≤ 1000) (hall : (xs.all fun x => x.d.right) = true) :
    Calls Try.prog 31 #[.slice A m c] W fun e w' => ∃ A n c, e = .returned (.tuple #[.slice A n c, .int .i64 0]) ∧ Conv w' (.slice A n c) (bytesAll xs) ∧ Ext W w' := by
  by_cases h0 : m = 0
  · subst h0
    have : xs = [] := List.length_eq_zero_iff.1 hl
    subst this
    refine (put_nil A c W).mono ?_
    rintro e w' ⟨rfl, hE⟩
    exact ⟨_, _, _, rfl, Conv.zero _ _ _, hE⟩
  · obtain ⟨g, c', hv, _, _⟩ := hown.form (by omega)
    injection hv with hv _ hc
    subst hv hc
    have := put_core g c xs (by omega) W (outRow_of_own hown hl hA)
    rw [hl] at this
    refine this.mono ?_
    rintro e w' ⟨v, er, rfl, h1, _, hE⟩
    obtain ⟨rfl, ho⟩ := h1 hall
    have hb : ∀ x ∈ bytesAll xs, 0 ≤ x ∧ x ≤ 255 := by
      intro x hx
      obtain ⟨y, hy, hxy⟩ := List.mem_flatMap.1 hx
      exact OutD.bytes_byte (hA y hy).fit x hxy
    have hC := Conv.of_own ho hb
    obtain ⟨A, n, c, rfl⟩ : ∃ A n c, v = .slice A n c := by rcases ho.2 with ⟨rfl, _⟩ | ⟨g, c, _, rfl, _⟩ <;> exact ⟨_, _, _, rfl⟩
    exact ⟨A, n, c, rfl, hC, hE⟩

def Wakes28 : Prop := ∀ w, Calls Try.prog 28 #[] w fun e w' => e = .returned (.bool true) ∧ Ext w w'

set_option maxHeartbeats 1000000 in
theorem oonly_long (HW : Wakes28) (A : Option Addr) (n cap : Nat) (w : World) (hn : 3000 < n) : Calls Try.prog 8 #[.slice A n cap] w fun e w' => e = .returned (.bool true) ∧ Ext w w' := by
  have h1 : (3000 : Int) < (n : Int) := by omega
  have H := Lib.hid HW
  clear hn HW
  go_enter Try.func8, Try.ntmps8
  go_wp2_with (go_at_call 28; refine (H.out _).mono ?_; rintro e w1 ⟨rfl, hB⟩)
  go_ret
  exact ⟨rfl, hB⟩

set_option maxHeartbeats 4000000 in
theorem oonly_err (HW : Wakes28) (A : Option Addr) (n cap : Nat) (er : Int) (w : World) (hn : n ≤ 3000) (her : er = 50 ∨ er = 11)
    (H29 : Calls Try.prog 29 #[.slice A n cap] w fun e w' => e = .returned (.tuple #[.slice none 0 0, .int .i64 er]) ∧ Ext w w') :
    Calls Try.prog 8 #[.slice A n cap] w fun e w' => e = .returned (.bool true) ∧ Ext w w' := by
  have h1 : (n : Int) ≤ 3000 := by omega
  have H := Lib.hid HW
  have K := Lib.hid H29
  clear hn HW H29
  rcases her with rfl | rfl
  all_goals
    go_enter Try.func8, Try.ntmps8
    go_wp2_with (first | (go_at_call 29; refine K.out.mono ?_; rintro e w1 ⟨rfl, hB⟩; have T1 := Lib.hid hB; clear hB) | (go_at_call 28; refine (H.out _).mono ?_; rintro e w2 ⟨rfl, hB⟩; have T := Lib.hid (T1.out.trans hB); clear hB))
    go_ret
    exact ⟨rfl, T.out⟩

set_option maxHeartbeats 8000000 in
set_option maxRecDepth 100000 in
theorem oonly_ok (HW : Wakes28) (A : Option Addr) (n cap : Nat) (zs : List Int) (w : World) (hn : n ≤ 3000) (hl : zs.length = n) (hok : (takeO zs).2 = 0) (hz : ∀ W, Ext w W → Conv W (.slice A n cap) zs) (hcap : n ≤ cap)
    (H29 : Calls Try.prog 29 #[.slice A n cap] w fun e w' => ∃ (v : Value) (xs : List OX), e = .returned (.tuple #[v, .int .i64 0]) ∧
      xs.map OX.d = (takeO zs).1 ∧ w'.ownsRow w.heap.size 64 5 v xs.length (xs.flatMap OX.cells) ∧ (∀ x ∈ xs, x.At w') ∧ Ext w w')
    (Hcut : 0 < n → ∃ (b off : Nat), A = some ⟨b, off, none⟩ ∧ ∀ W, Ext w W → Calls Try.prog 29 #[.slice A (n - 1) cap] W fun e w' => ∃ v : Value, e = .returned (.tuple #[v, .int .i64 50]) ∧ Ext W w') :
    Calls Try.prog 8 #[.slice A n cap] w fun e w' => e = .returned (.bool true) ∧ Ext w w' := by
  have h1 : (n : Int) ≤ 3000 := by omega
  have H := Lib.hid HW
  have K := Lib.hid H29
  have HL := Lib.hid hl
  have HOk := Lib.hid hok
  have HZ := Lib.hid hz
  have HCut := Lib.hid Hcut
  have HN := Lib.hid (And.intro hn hcap)
  clear hn HW H29 hl hok hz Hcut hcap
  go_enter Try.func8, Try.ntmps8
  go_wp2_with fail
  refine K.out.mono ?_
  rintro e w1 ⟨v, xs, rfl, hd, hown, hA, hE⟩
  have hlen : xs.length ≤ 500 := by
    have := takeO_len zs.length zs (Nat.le_refl _)
    rw [← hd, List.length_map, HL.out] at this
    have := HN.out.1
    omega
  have hall : ((xs.map OX.d).all OutD.right) = true ∧ (xs.map OX.d).flatMap OutD.bytes = zs := by
    have := takeO_ok zs.length zs (Nat.le_refl _) HOk.out
    rwa [← hd] at this
  have hbytes : bytesAll xs = zs := by
    rw [← hall.2]
    simp [bytesAll, List.flatMap_map]
  have hright : (xs.all fun x => x.d.right) = true := by
    have := hall.1
    rwa [List.all_map] at this
  obtain ⟨A1, m1, c1, rfl⟩ : ∃ A m c, v = .slice A m c := by rcases hown.2 with ⟨rfl, _⟩ | ⟨g, c, _, rfl, _⟩ <;> exact ⟨_, _, _, rfl⟩
  have hm1 : xs.length = m1 := by
    rcases hown.2 with ⟨h, h2⟩ | ⟨g, c, _, h, _⟩
    · injection h with _ h _; omega
    · injection h with _ h _; exact h.symm
  rw [hm1] at hown hlen
  have HZ0 : Hid (n = 0 → m1 = 0) := Lib.hid fun h => by
    have h0 : zs = [] := List.length_eq_zero_iff.1 (by rw [HL.out]; exact h)
    rw [h0, takeO_nil] at hd
    have := congrArg List.length hd
    rw [List.length_map, hm1] at this
    exact this
  have T1 := Lib.hid hE
  have HX := Lib.hid (And.intro hown (And.intro hA (And.intro hright (And.intro hbytes hm1))))
  clear hd hown hA hE hall hbytes hright hm1
  go_wp2_with fail
  go_loopw [5] (fun i wr => ∃ j : Nat, j ≤ m1 ∧ i = .int .i64 j ∧ Ext w1 wr) (fun i _ => m1 - (intOf i).toNat)
  case atStart => exact ⟨0, Nat.zero_le _, rfl, Ext.refl _⟩
  case round =>
    obtain ⟨j, hj, rfl, hE⟩ := hrel
    by_cases hlt : j < m1
    · obtain ⟨g, cg, hv, _, _⟩ := HX.out.1.form (by omega)
      injection hv with hv _ hc
      subst hv hc
      have hO := outRow_of_own HX.out.1 HX.out.2.2.2.2 HX.out.2.1
      have hjx : j < xs.length := by rw [HX.out.2.2.2.2]; exact hlt
      have hget : xs.getD j OX.zero = xs[j] := by rw [List.getD_eq_getElem?_getD, List.getElem?_eq_getElem hjx]; rfl
      have hcs := (hO.ext hE).cell j hjx
      have hat := (hO.ext hE).at_ (xs.getD j OX.zero) (by rw [hget]; exact List.getElem_mem hjx)
      have hrt : (xs.getD j OX.zero).d.right = true := by
        have := List.all_eq_true.1 HX.out.2.2.1 xs[j] (List.getElem_mem hjx)
        rw [hget]; exact this
      clear hget hO
      generalize xs.getD j OX.zero = x at *
      have c0 : wr.cell? ⟨g, j * 5, none⟩ = some (.int .u8 x.d.kd) := hcs 0 _ rfl
      have c1' : wr.cell? ⟨g, j * 5 + 1, none⟩ = some x.rowV := hcs 1 _ rfl
      have c2 : wr.cell? ⟨g, j * 5 + 2, none⟩ = some x.evsV := hcs 2 _ rfl
      have c3 : wr.cell? ⟨g, j * 5 + 3, none⟩ = some (.int .i64 x.d.at_) := hcs 3 _ rfl
      have c4 : wr.cell? ⟨g, j * 5 + 4, none⟩ = some (.int .u8 x.d.code) := hcs 4 _ rfl
      have H30 := Lib.hid (fun w' (hE : Ext wr w') => oright_any x w' (hat.ext hE))
      have HR := Lib.hid hrt
      have HE := Lib.hid hE
      clear hcs hat hrt hE
      obtain ⟨A2, m2, c2', hA⟩ : ∃ A m c, x.rowV = .slice A m c := by unfold OX.rowV; split <;> exact ⟨_, _, _, rfl⟩
      obtain ⟨A3, m3, c3', hB⟩ : ∃ A m c, x.evsV = .slice A m c := by unfold OX.evsV; split <;> exact ⟨_, _, _, rfl⟩
      rw [hA] at c1'
      rw [hB] at c2
      simp only [OX.val, hA, hB, HR.out] at H30
      have p1 : (j : Int) < (m1 : Int) := by omega
      have p2 : (0 : Int) ≤ (j : Int) := by omega
      go_wp2_with (go_at_call 30; refine (H30.out _ (Ext.refl _)).mono ?_; rintro e w2 ⟨rfl, hE1⟩; have T := Lib.hid (HE.out.trans hE1); clear hE1)
      go_round
      case rel => exact ⟨j + 1, by omega, by go_num, T.out⟩
      case measure => simp [intOf]; omega
    · have e : m1 = j := by omega
      subst e
      have HE := Lib.hid hE
      have K31 := Lib.hid (fun (W : World) (hW : Ext w1 W) => put_list _ A1 m1 c1 xs W (owns_ext HX.out.1 hW) HX.out.2.2.2.2 (fun x hx => (HX.out.2.1 x hx).ext hW) (by omega) HX.out.2.2.1)
      clear hE
      by_cases hn0 : n = 0
      · have hm0 := HZ0.out hn0
        subst hn0 hm0
        go_wp2_with (first
          | (go_at_call 31; go_loud (refine (K31.out _ HE.out).mono ?_; rintro e w2 ⟨A2, n2, c2, rfl, hC, hE1⟩; have T := Lib.hid (T1.out.trans (HE.out.trans hE1)); have k1 := hC; rw [HX.out.2.2.2.1] at k1; have k2 := HZ.out _ T.out; unfold Conv at k1 k2; clear hC hE1; generalize strOfNums zs = S at *))
          | (go_at_call 28; refine (H.out _).mono ?_; rintro e w3 ⟨rfl, hB⟩; have T3 := Lib.hid (T.out.trans hB); clear hB))
        go_ret
        exact ⟨rfl, T3.out⟩
      · obtain ⟨b, off, rfl, hc⟩ := HCut.out (by omega)
        have HC2 := Lib.hid hc
        clear hc
        have q1 : ((n : Int) == 0) = false := by simp; omega
        have q2 : (n : Int) - 1 ≤ (cap : Int) := by have := HN.out.2; omega
        have q3 : (0 : Int) ≤ (n : Int) - 1 := by omega
        have q4 : ((n : Int) - 1).toNat = n - 1 := by omega
        have q5 : (1 : Int) ≤ (n : Int) := by omega
        have q6 : ¬ n = 0 := hn0
        have q7 : 1 ≤ n := by omega
        go_wp2_with (first
          | (go_at_call 31; go_loud (refine (K31.out _ HE.out).mono ?_; rintro e w2 ⟨A2, n2, c2, rfl, hC, hE1⟩; have T := Lib.hid (T1.out.trans (HE.out.trans hE1)); have k1 := hC; rw [HX.out.2.2.2.1] at k1; have k2 := HZ.out _ T.out; unfold Conv at k1 k2; clear hC hE1; generalize strOfNums zs = S at *))
          | (go_at_call 29; refine (HC2.out _ T.out).mono ?_; rintro e w3 ⟨v3, rfl, hB⟩; have T3 := Lib.hid (T.out.trans hB); clear hB)
          | (go_at_call 28; refine (H.out _).mono ?_; rintro e w4 ⟨rfl, hB⟩; have T4 := Lib.hid (T3.out.trans hB); clear hB))
        go_ret
        exact ⟨rfl, T4.out⟩

theorem row_take {W : World} {b off : Nat} {zs : List Int} (h : Row W b off zs) (k : Nat) : Row W b off (zs.take k) :=
  ⟨fun i hi => by
    rw [List.length_take] at hi
    rw [h.cell i (by omega), List.getD_eq_getElem?_getD, List.getD_eq_getElem?_getD, List.getElem?_take, if_pos (by omega)], fun x hx => h.byte x (List.mem_of_mem_take hx)⟩

theorem oonly_walk (HW : Wakes28) (A : Option Addr) (n cap : Nat) (zs : List Int) (w : World) (hl : zs.length = n) (hA : 0 < n → ∃ b off, A = some ⟨b, off, none⟩ ∧ Row w b off zs) (hcap : n ≤ cap) (hmax : cap ≤ maxLen) :
    Calls Try.prog 8 #[.slice A n cap] w fun e w' => e = .returned (.bool true) ∧ Ext w w' := by
  by_cases hn : 3000 < n
  · exact oonly_long HW A n cap w hn
  have hr : ∃ b off, (0 < n → A = some ⟨b, off, none⟩) ∧ Row w b off zs := by
    by_cases h0 : 0 < n
    · obtain ⟨b, off, h1, h2⟩ := hA h0
      exact ⟨b, off, fun _ => h1, h2⟩
    · have : zs = [] := List.length_eq_zero_iff.1 (by omega)
      subst this
      exact ⟨0, 0, fun h => absurd h h0, ⟨fun i hi => by simp at hi, fun x hx => by cases hx⟩⟩
  obtain ⟨b, off, hA1, hrow⟩ := hr
  have H := otake_any A b off n cap zs w hl (by omega) hA1 hrow hcap hmax
  rcases takeO_err zs.length zs (Nat.le_refl _) with h0 | h0
  · refine oonly_ok HW A n cap zs w (by omega) hl h0 (fun W hW => ?_) hcap (H.mono ?_) (fun hp => ?_)
    · by_cases hp : 0 < n
      · rw [hA1 hp]
        exact Conv.of_row (hW.row hrow) hl
      · have e0 : n = 0 := by omega
        subst e0
        have : zs = [] := List.length_eq_zero_iff.1 hl
        subst this
        exact Conv.zero _ _ _
    · rintro e w' ⟨v, xs, rfl, h1, _, hE⟩
      obtain ⟨h2, h3, h4⟩ := h1 h0
      rw [h0]
      exact ⟨v, xs, rfl, h2, h3, h4, hE⟩
    · have e := hA1 hp
      refine ⟨b, off, e, fun W hW => ?_⟩
      have hcut := takeO_cut zs.length zs (Nat.le_refl _) (by intro h; rw [h] at hl; simp at hl; omega) h0
      rw [hl] at hcut
      refine (otake_any A b off (n - 1) cap (zs.take (n - 1)) W (by rw [List.length_take]; omega) (by omega) (fun _ => e) (row_take (hW.row hrow) _) (by omega) hmax).mono ?_
      rintro e' w' ⟨v, xs, rfl, _, _, hE⟩
      rw [hcut]
      exact ⟨v, rfl, hE⟩
  · refine oonly_err HW A n cap (takeO zs).2 w (by omega) h0 (H.mono ?_)
    rintro e w' ⟨v, xs, rfl, _, h2, hE⟩
    rw [h2 (by omega)]
    exact ⟨rfl, hE⟩

end Go.Proofs.Ytcbneobdelbhlaa
