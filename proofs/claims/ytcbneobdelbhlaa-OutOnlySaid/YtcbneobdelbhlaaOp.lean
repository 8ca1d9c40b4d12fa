/-
  Package out: first, of bytes of a match.
-/
import Derived.Test.YtcbneobdelbhlaaOm
namespace Go.Proofs.Ytcbneobdelbhlaa
open Go.RowKit Go.Shelf
attribute [local go_sem] Oper.semAt_some

theorem info32 : (Try.prog.info? 32).map (fun i => (i.zero, i.size, i.bytes)) = some (some (.agg #[.int .i64 0, .int .i64 0, .int .i64 0, .int .i64 0, .complex .f64 0 0]), 5, 48) := by kernel_rfl
theorem und60 : Try.prog.underlying 60 = some (.slice 32) := by kernel_rfl

/-- What first has in memory in its first loop. -/
structure F1 (w : World) (b off n cap M : Nat) (k : Int) (v : Value) (xs : List Int) (W : World) : Prop where
  below : Ext w W
  size : w.heap.size + 3 ≤ W.heap.size
  b0 : W.heap[w.heap.size]? = some (.cells #[.slice (some ⟨b, off, none⟩) n cap] 30 (0, 0))
  b1 : W.heap[w.heap.size + 1]? = some (.cells #[.int .u8 k, v, .slice none 0 0, .int .i64 0, .int .u8 0] 64 (0, 0))
  b2 : W.heap[w.heap.size + 2]? = some (.cells #[.int .i64 (2 + M)] 3 (0, 0))
  own : W.ownsRow (w.heap.size + 3) 3 1 v xs.length (xs.map (Value.int .i64))

theorem set5_1 {w : World} {b : Nat} {c0 c1 c2 c3 c4 : Value} {t : TypeId} (h : w.heap[b]? = some (.cells #[c0, c1, c2, c3, c4] t (0, 0))) (v : Value) :
    (w.setCell ⟨b, 1, none⟩ v).heap[b]? = some (.cells #[c0, v, c2, c3, c4] t (0, 0)) := by
  simp [World.setCell, Array.getElem?_modify, h]
theorem set5_2 {w : World} {b : Nat} {c0 c1 c2 c3 c4 : Value} {t : TypeId} (h : w.heap[b]? = some (.cells #[c0, c1, c2, c3, c4] t (0, 0))) (v : Value) :
    (w.setCell ⟨b, 2, none⟩ v).heap[b]? = some (.cells #[c0, c1, v, c3, c4] t (0, 0)) := by
  simp [World.setCell, Array.getElem?_modify, h]

theorem F1.step {w W w2 : World} {b off n cap M m : Nat} {k x : Int} {v v' : Value} {xs : List Int} {o : Obj} (h : F1 w b off n cap M k v xs W) (hm : xs.length = m)
    (hown' : w2.ownsRow (w.heap.size + 3) 3 1 v' (m + 1) (xs.map (Value.int .i64) ++ [Value.int .i64 x])) (hg : (W.alloc o).grownBy w2 v.ownBlock) :
    w2.cell? ⟨w.heap.size + 1, 1, none⟩ = some v ∧ w2.frozen? ⟨w.heap.size + 1, 1, none⟩ = false ∧ F1 w b off n cap M k v' (xs ++ [x]) (w2.setCell ⟨w.heap.size + 1, 1, none⟩ v') := by
  have hs := h.size
  have hs2 := hg.size
  have hq : ∀ q, q < w.heap.size + 3 → w2.heap[q]? = W.heap[q]? := fun q hq =>
    (hg.block q (by simp; omega) (fun e => by have := (h.own.lt q e.symm).1; omega)).trans (Below.heap_alloc _ _ _ (by omega))
  have q1 := (hq _ (by omega)).trans h.b1
  have hne : ∀ q, q ≠ w.heap.size + 1 → (w2.setCell ⟨w.heap.size + 1, 1, none⟩ v').heap[q]? = w2.heap[q]? := fun q hq => Below.heap_setCell w2 ⟨w.heap.size + 1, 1, none⟩ v' _ hq
  refine ⟨(row5 q1).2.1, row_free q1 1, ⟨?_, ?_, ?_, set5_1 q1 v', ?_, ?_⟩⟩
  · exact ((h.below.alloc _).grown hg (by simp; omega) (fun q e => by have := (h.own.lt q e).1; omega)).setCell (p := ⟨w.heap.size + 1, 1, none⟩) (Nat.le_succ _) _
  · simp [World.setCell] at hs2 ⊢; omega
  · exact (hne _ (by omega)).trans ((hq _ (by omega)).trans h.b0)
  · exact (hne _ (by omega)).trans ((hq _ (by omega)).trans h.b2)
  · rw [List.length_append, List.map_append, hm]
    exact ownsRow_setCell_below hown' (by simp) _

/-- What first has in memory in its second loop. -/
structure F2 (w : World) (b off n cap M : Nat) (k : Int) (g c : Nat) (row : List Int) (j : Nat) (v : Value) (evs : List EvD) (W : World) : Prop where
  below : Ext w W
  size : w.heap.size + 3 ≤ W.heap.size
  b0 : W.heap[w.heap.size]? = some (.cells #[.slice (some ⟨b, off, none⟩) n cap] 30 (0, 0))
  b1 : W.heap[w.heap.size + 1]? = some (.cells #[.int .u8 k, .slice (some ⟨g, 0, none⟩) M c, v, .int .i64 0, .int .u8 0] 64 (0, 0))
  b2 : W.heap[w.heap.size + 1 + 1]? = some (.cells #[.int .i64 (2 + M + 20 * j)] 3 (0, 0))
  ge : w.heap.size + 3 ≤ g
  blk : ∃ cs, W.heap[g]? = some (.cells cs 3 (0, 0))
  row : IntRow W g row
  own : W.ownsRow (w.heap.size + 3) 32 5 v evs.length (evs.flatMap EvD.cells)

theorem introw_of_own {W : World} {base g m c : Nat} {row : List Int} (h : W.ownsRow base 3 1 (.slice (some ⟨g, 0, none⟩) m c) m (row.map (Value.int .i64))) (hl : row.length = m) : IntRow W g row := fun i hi => by
  rw [h.cellAt i (by omega)]
  simp [List.getD_eq_getElem?_getD, List.getElem?_eq_getElem hi]

theorem news_at {W : World} {n : Nat} (h : W.heap.size = n) (t : TypeId) (cs : List Value) : ∀ j u, cs[j]? = some u → (W.alloc (.cells cs.toArray t)).cell? ((⟨n, 0, none⟩ : Addr).add j) = some u := by
  subst h; exact news_new W t cs
theorem EvD.oneCells (e : EvD) : ∀ u ∈ e.cells, u.oneCell' = true := by
  intro u hu
  simp only [EvD.cells, List.mem_cons, List.not_mem_nil, or_false] at hu
  rcases hu with rfl | rfl | rfl | rfl | rfl <;> rfl

/-- Only block b changed. -/
def But (b : Nat) (W W' : World) : Prop := ∀ q, q ≠ b → W'.heap[q]? = W.heap[q]?
theorem But.refl (b : Nat) (w : World) : But b w w := fun _ _ => rfl
theorem But.set {b : Nat} {w W : World} (h : But b w W) (i : Nat) (v : Value) : But b w (W.setCell ⟨b, i, none⟩ v) := by
  intro q hq
  rw [Below.heap_setCell W ⟨b, i, none⟩ v q hq]
  exact h q hq
theorem But.drew {b : Nat} {w W : World} (h : But b w W) : But b w W.drew := fun q hq => h q hq
theorem at5 {W W' : World} {x : OX} {b : Nat} (h : x.At W) (hb : x.b ≠ b ∧ x.b' ≠ b) (hB : But b W W') : x.At W' :=
  ⟨h.fit, fun i hi => (World.cell?_of_block (hB _ hb.1)).trans (h.row i hi), fun i hi => by
    have e : ∀ j, W'.cell? ⟨x.b', j, none⟩ = W.cell? ⟨x.b', j, none⟩ := fun j => World.cell?_of_block (hB _ hb.2)
    rw [e, e, e, e, e]
    exact h.evs i hi, fun hn => ⟨let ⟨cs, hc⟩ := (h.blk hn).1; ⟨cs, (hB _ hb.1).trans hc⟩, let ⟨cs, hc⟩ := (h.blk hn).2; ⟨cs, (hB _ hb.2).trans hc⟩⟩⟩

theorem flat_getD : ∀ (evs : List EvD) (i : Nat), i < evs.length → ∀ t, t < 5 → (evs.flatMap EvD.cells)[i * 5 + t]? = (evs.getD i EvD.zero).cells[t]?
  | [], i, h, _, _ => by simp at h
  | e :: l, 0, _, t, ht => by
    rw [List.flatMap_cons, List.getElem?_append_left (by simp [EvD.cells]; omega)]
    simp
  | e :: l, i + 1, h, t, ht => by
    rw [List.flatMap_cons, List.getElem?_append_right (by simp [EvD.cells]; omega)]
    have := flat_getD l i (by simpa using h) t ht
    rw [show (i + 1) * 5 + t - e.cells.length = i * 5 + t by simp [EvD.cells]; omega, this]
    simp

theorem evrow_of_own {W : World} {base g m c : Nat} {evs : List EvD} (h : W.ownsRow base 32 5 (.slice (some ⟨g, 0, none⟩) m c) m (evs.flatMap EvD.cells)) (hl : evs.length = m) : EvRow W g evs := fun i hi => by
  have e := flat_getD evs i hi
  have c := fun (t : Nat) (ht : t < 5) => h.cellAt (i * 5 + t) (by omega)
  have d : ∀ t, t < 5 → (evs.flatMap EvD.cells)[i * 5 + t]? = (evs.getD i EvD.zero).cells[t]? := e
  have hc : ∀ t (ht : t < 5) u, (evs.getD i EvD.zero).cells[t]? = some u → W.cell? ⟨g, i * 5 + t, none⟩ = some u := fun t ht u hu => by
    rw [c t ht, d t ht, hu]
  exact ⟨hc 0 (by omega) _ rfl, hc 1 (by omega) _ rfl, hc 2 (by omega) _ rfl, hc 3 (by omega) _ rfl, hc 4 (by omega) _ rfl⟩

theorem F2.next {w W W1 : World} {b off n cap M : Nat} {k : Int} {g c : Nat} {row : List Int} {j : Nat} {v : Value} {evs : List EvD} (h : F2 w b off n cap M k g c row j v evs W) {z : Int} (hz : z = 2 + M + 20 * ((j + 1 : Nat) : Int))
    (hE : Ext (W.setCell ⟨w.heap.size + 1 + 1, 0, none⟩ (.int .i64 z)) W1) : F2 w b off n cap M k g c row (j + 1) v evs W1 := by
  have hne : ∀ q, q ≠ w.heap.size + 1 + 1 → (W.setCell ⟨w.heap.size + 1 + 1, 0, none⟩ (.int .i64 z)).heap[q]? = W.heap[q]? := fun q hq => Below.heap_setCell W ⟨w.heap.size + 1 + 1, 0, none⟩ _ _ hq
  have hge := h.ge
  have hs := h.size
  obtain ⟨cs, hcs⟩ := h.blk
  subst hz
  refine ⟨?_, ?_, hE.heap ((hne _ (by omega)).trans h.b0), hE.heap ((hne _ (by omega)).trans h.b1), hE.heap (one_setCell h.b2), hge, ⟨cs, hE.heap ((hne _ (by omega)).trans hcs)⟩, ?_, owns_ext (ownsRow_setCell_below h.own (by simp) _) hE⟩
  · exact (Below.setCell h.below (p := ⟨w.heap.size + 1 + 1, 0, none⟩) (by simp; omega) _).trans (Below.mono hE (by simp [World.setCell]; omega))
  · have := Below.size hE; simp [World.setCell] at this; omega
  · intro i hi
    exact hE.cell ((World.cell?_of_block (hne g (by omega))).trans (h.row i hi))

theorem F2.step {w W w2 : World} {b off n cap M m : Nat} {k : Int} {g c : Nat} {row : List Int} {j : Nat} {e : EvD} {v v' : Value} {evs : List EvD} {o o' : Obj} (h : F2 w b off n cap M k g c row j v evs W) (hm : evs.length = m)
    (hown' : w2.ownsRow (w.heap.size + 3) 32 5 v' (m + 1) (evs.flatMap EvD.cells ++ e.cells)) (hg : ((W.alloc o).alloc o').grownBy w2 v.ownBlock) :
    w2.cell? ⟨w.heap.size + 1, 2, none⟩ = some v ∧ w2.frozen? ⟨w.heap.size + 1, 2, none⟩ = false ∧ F2 w b off n cap M k g c row j v' (evs ++ [e]) (w2.setCell ⟨w.heap.size + 1, 2, none⟩ v') := by
  have hs := h.size
  have hge := h.ge
  have hs2 := hg.size
  obtain ⟨cs, hcs⟩ := h.blk
  have hal : ∀ q, q < W.heap.size → ((W.alloc o).alloc o').heap[q]? = W.heap[q]? := fun q hq => (Below.heap_alloc _ _ _ (by simp; omega)).trans (Below.heap_alloc _ _ _ (by omega))
  have hq : ∀ q, q < w.heap.size + 3 → w2.heap[q]? = W.heap[q]? := fun q hq =>
    (hg.block q (by simp; omega) (fun e => by have := (h.own.lt q e.symm).1; omega)).trans (hal q (by omega))
  have hgg : w2.heap[g]? = some (.cells cs 3 (0, 0)) := by
    refine (hg.block g (by have := heap_lt hcs; simp; omega) (fun e' => ?_)).trans ((hal g (heap_lt hcs)).trans hcs)
    rcases h.own.2 with ⟨rfl, _⟩ | ⟨g2, cap2, cur2, rfl, _, hh2, _⟩
    · simp [Value.ownBlock] at e'
    · have : g2 = g := by simpa [Value.ownBlock] using e'.symm
      subst this
      rw [hcs] at hh2
      injection hh2 with hh2
      injection hh2 with _ hh2
      exact absurd hh2 (by decide)
  have q1 := (hq _ (by omega)).trans h.b1
  have hne : ∀ q, q ≠ w.heap.size + 1 → (w2.setCell ⟨w.heap.size + 1, 2, none⟩ v').heap[q]? = w2.heap[q]? := fun q hq => Below.heap_setCell w2 ⟨w.heap.size + 1, 2, none⟩ v' _ hq
  have hgl : (w2.setCell ⟨w.heap.size + 1, 2, none⟩ v').heap[g]? = W.heap[g]? := (hne g (by omega)).trans (hgg.trans hcs.symm)
  refine ⟨(row5 q1).2.2.1, row_free q1 2, ⟨?_, ?_, (hne _ (by omega)).trans ((hq _ (by omega)).trans h.b0), set5_2 q1 v', (hne _ (by omega)).trans ((hq _ (by omega)).trans h.b2), hge, ⟨cs, hgl.trans hcs⟩, fun i hi => (World.cell?_of_block hgl).trans (h.row i hi), ?_⟩⟩
  · exact (((h.below.alloc _).alloc _).grown hg (by simp; omega) (fun q e => by have := (h.own.lt q e).1; omega)).setCell (p := ⟨w.heap.size + 1, 2, none⟩) (Nat.le_succ _) _
  · simp [World.setCell] at hs2 ⊢; omega
  · rw [List.length_append, List.flatMap_append, hm]
    have : [e].flatMap EvD.cells = e.cells := by simp
    rw [this]
    exact ownsRow_setCell_below hown' (by simp) _

set_option maxHeartbeats 8000000 in
set_option maxRecDepth 100000 in
theorem first_match (b off n cap M : Nat) (k : Int) (l : List Int) (w : World) (hk : k = 1 ∨ k = 2) (h1 : 1 ≤ M) (h4 : M ≤ 4) (hn : l.length + 2 = n) (hlen : 2 + 21 * M ≤ n) (hrow : Row w b off (k :: (M : Int) :: l)) (hcap : n ≤ cap) (hmax : cap ≤ maxLen) :
    Calls Try.prog 59 #[.slice (some ⟨b, off, none⟩) n cap] w (FirstR w (k :: (M : Int) :: l) b off cap) := by
  have h0 : w.cell? ⟨b, off, none⟩ = some (.int .u8 k) := hrow.cell 0 (by simp)
  have hm1 : w.cell? ⟨b, off + 1, none⟩ = some (.int .u8 M) := hrow.cell 1 (by simp)
  have HRow := Lib.hid hrow
  have HK := Lib.hid hk
  have HN := Lib.hid hn
  have HL := Lib.hid hlen
  have HC := Lib.hid (And.intro hcap hmax)
  have p1 : (1 : Int) ≤ (n : Int) := by omega
  have p2 : (0 : Int) < (n : Int) := by omega
  have p3 : ¬ (n : Int) < 2 := by omega
  have p4 : (2 : Int) ≤ (n : Int) := by omega
  have p5 : ((M : Int) == 0) = false := by simp; omega
  have p6 : decide (4 < (M : Int)) = false := by simp; omega
  have p7 : ¬ (n : Int) < 2 + 21 * (M : Int) := by omega
  have p8 : (M : Int) ≤ 4 := by omega
  have p9 : (1 : Int) ≤ (M : Int) := by omega
  have p10 : (k == 3) = false := by simp; omega
  have p11 : ¬ k = 3 := by omega
  have p12 : (n : Int) ≤ (cap : Int) := by omega
  have c1 : ¬ 1 = cap - 1 := by omega
  have c2 : ¬ cap - 1 = 1 := by omega
  have c3 : ((cap - 1 : Nat) : Int) = (cap : Int) - 1 := by omega
  have hb : b < w.heap.size := by obtain ⟨o, ho, _⟩ := cells_of_cell h0; exact heap_lt ho
  have b0 : ¬ b = w.heap.size := by omega
  have b1 : ¬ b = w.heap.size + 1 := by omega
  have b2 : ¬ b = w.heap.size + 1 + 1 := by omega
  have b3 : b < w.heap.size + 1 := by omega
  have b4 : b < w.heap.size + 1 + 1 := by omega
  clear hrow hk hn hcap hmax hlen
  go_enter Try.func59, Try.ntmps59
  go_wp2
  refine wp_scope_goto 0 rfl ?_
  go_wp2_with (first
    | (go_at_call 62; refine (told_true HK.out _).mono ?_; rintro e w1 ⟨rfl, rfl⟩)
    | (go_at_call 84; refine (next_any _ _ b off 1 (M + 1) n cap 1 (1 + (M : Int)) (2 + (M : Int)) (off + 1) (cap - 1) rfl (by omega) (by omega) rfl rfl _ (by simp [go_sem]) (by simp [go_sem]) (by simp [go_sem]) (by omega) (by omega) (by have := HL.out; omega) HC.out.1 HC.out.2).mono ?_; rintro e w1 ⟨rfl, rfl⟩))

  have HZ : Hid (F1 w b off n cap M k (.slice none 0 0) [] (((w.alloc (.cells #[.slice (some ⟨b, off, none⟩) n cap] 30)).alloc (.cells #[.int .u8 k, .slice none 0 0, .slice none 0 0, .int .i64 0, .int .u8 0] 64)).alloc (.cells #[.int .i64 (2 + M)] 3))) :=
    Lib.hid ⟨(((Ext.refl w).alloc _).alloc _).alloc _, by simp, heap_up (heap_up (World.alloc_heap_new w _)), heap_up (heap_top (by simp)), heap_top (by simp), World.ownsRow_nil _ _ _ _⟩
  obtain ⟨i0, hi, hz0, hz1, hz2⟩ := info_parts info3
  go_loopw [70] (fun i wr => ∃ (j : Nat) (v : Value), j ≤ M ∧ i = .int .i64 j ∧ F1 w b off n cap M k v (l.take j) wr) (fun i _ => M - (intOf i).toNat)
  case atStart => exact ⟨0, _, Nat.zero_le _, rfl, HZ.out⟩
  case round =>
    obtain ⟨j, v, hj, rfl, hF⟩ := hrel
    by_cases hlt : j < M
    · have hjl : j < l.length := by have := HN.out; have := HL.out; omega
      have hx : wr.cell? ⟨b, off + 1 + 1 + j, none⟩ = some (.int .u8 (l.getD j 0)) := by
        have := hF.below.cell (HRow.out.cell (j + 2) (by simp; omega))
        rw [show off + (j + 2) = off + 1 + 1 + j by omega] at this
        simpa using this
      have HXS : Hid (l.take (j + 1) = l.take j ++ [l.getD j 0]) := Lib.hid (by
        rw [List.take_succ_eq_append_getElem hjl, List.getD_eq_getElem?_getD, List.getElem?_eq_getElem hjl]; rfl)
      have HTL : Hid ((l.take j).length = j) := Lib.hid (by rw [List.length_take]; omega)
      have hxb := HRow.out.byte (l.getD j 0) (by
        rw [List.getD_eq_getElem?_getD, List.getElem?_eq_getElem hjl]
        exact List.mem_cons_of_mem _ (List.mem_cons_of_mem _ (List.getElem_mem hjl)))
      generalize l.getD j 0 = x at *
      have HF := Lib.hid hF
      have HOwn : Hid (wr.ownsRow (w.heap.size + 3) 3 1 v j ((l.take j).map (Value.int .i64))) := Lib.hid (by have := hF.own; rwa [HTL.out] at this)
      have hsz := hF.size
      obtain ⟨r0, r1, r2, r3, r4⟩ := row5 hF.b1
      have rf := row_free hF.b1
      clear hF
      go_wp2_with (at_builtin; go_loud (refine wpList_append_own _ rfl (.tmp 76) (.tmp 79) 59 (by rfl) (w.heap.size + 3) 3 i0 (.int .i64 0) 1 8 und59 hi hz0 hz1 hz2 rfl (by omega) v j ((l.take j).map (Value.int .i64)) (by rfl) (HOwn.out.alloc _) ⟨wr.heap.size, 0, none⟩ 1 1 [.int .i64 x] (by rfl) (by rfl) (news_new wr 3 [.int .i64 x]) (by intro u hu; simp at hu; subst hu; rfl) (by unfold maxLen; omega) (by omega) (by simp; omega) ?_; intro v1 w1 hown1 hg1 hnil1; obtain ⟨g1, cap1, rfl, _, _⟩ := hown1.form (by omega); obtain ⟨cc, ff, hF2⟩ := HF.out.step HTL.out hown1 hg1; have HF2 := Lib.hid hF2; clear hown1 hg1 hnil1 hF2))
      go_roundw
      case rel => exact ⟨j + 1, _, by omega, by go_num, by rw [HXS.out]; exact HF2.out⟩
      case measure => simp [intOf]; omega
    · have e : M = j := by omega
      subst e
      have HF := Lib.hid hF
      have hsz := hF.size
      have HTL : Hid ((l.take M).length = M) := Lib.hid (by have := HN.out; have := HL.out; rw [List.length_take]; omega)
      have hown := hF.own
      rw [HTL.out] at hown
      obtain ⟨g, c, rfl, hg1, hg2⟩ := hown.form (by omega)
      have HG : Hid (F2 w b off n cap M k g c (l.take M) 0 (.slice none 0 0) [] wr) := Lib.hid (by
        refine ⟨hF.below, hF.size, hF.b0, hF.b1, ?_, hg1, ?_, ?_, World.ownsRow_nil _ _ _ _⟩
        · simpa using hF.b2
        · rcases hown.2 with ⟨h, _⟩ | ⟨g', cap', cur, hv, _, hh, _⟩
          · cases h
          · injection hv with hv; injection hv with hv; injection hv with hv; subst hv; exact ⟨_, hh⟩
        · exact introw_of_own hown HTL.out)
      obtain ⟨r0, r1, r2, r3, r4⟩ := row5 hF.b1
      have rf := row_free hF.b1
      clear hF hown
      go_wp2_with fail
      obtain ⟨i2, hi2, hy0, hy1, hy2⟩ := info_parts info32
      go_loopw [88] (fun i wr => ∃ (j : Nat) (v : Value), j ≤ M ∧ i = .int .i64 j ∧ F2 w b off n cap M k g c (l.take M) j v ((List.range j).map (evAt ((M : Int) :: l) M)) wr) (fun i _ => M - (intOf i).toNat)
      case atStart => exact ⟨0, _, Nat.zero_le _, rfl, HG.out⟩
      case round =>
        obtain ⟨j, v, hj, rfl, hF⟩ := hrel
        by_cases hlt : j < M
        · have hsk : (2 + M + 20 * j) + 20 ≤ (k :: (M : Int) :: l).length := by have := HN.out; have := HL.out; simp only [List.length_cons]; omega
          have HCh : Hid (Row w b (off + (2 + M + 20 * j)) ((((M : Int) :: l).drop (1 + M + 20 * j)).take 20)) := Lib.hid (by
            have := chunk_row HRow.out hsk
            have e : (k :: (M : Int) :: l).drop (2 + M + 20 * j) = ((M : Int) :: l).drop (1 + M + 20 * j) := by rw [show 2 + M + 20 * j = (1 + M + 20 * j) + 1 by omega]; rfl
            rw [e] at this
            exact this)
          have hcl : ((((M : Int) :: l).drop (1 + M + 20 * j)).take 20).length = 20 := by
            have := HN.out; have := HL.out
            rw [List.length_take, List.length_drop, List.length_cons]; omega
          have HX : Hid (evAt ((M : Int) :: l) M j = evOf (takeD ((((M : Int) :: l).drop (1 + M + 20 * j)).take 20)).1) := Lib.hid rfl
          have HT : Hid (∀ W, Ext w W → Calls Try.prog 15 #[.slice (some ⟨b, off + (2 + M + 20 * j), none⟩) 20 (cap - (2 + M + 20 * j))] W fun e w' => e = .returned (.tuple #[(takeD ((((M : Int) :: l).drop (1 + M + 20 * j)).take 20)).1.val, .int .i64 (takeD ((((M : Int) :: l).drop (1 + M + 20 * j)).take 20)).2]) ∧ Ext W w') := Lib.hid fun W hW => by
            have := take_rec b (off + (2 + M + 20 * j)) (cap - (2 + M + 20 * j)) _ W (hW.row HCh.out) (by rw [hcl]; have := HC.out.1; have := HL.out; omega) (by have := HC.out.2; omega)
            rwa [hcl] at this
          generalize (takeD ((((M : Int) :: l).drop (1 + M + 20 * j)).take 20)).2 = er at *
          generalize (takeD ((((M : Int) :: l).drop (1 + M + 20 * j)).take 20)).1 = r at *
          obtain ⟨kd, ts, src, seq, ek, x, y, rs, rt⟩ := r
          have HXS : Hid ((List.range (j + 1)).map (evAt ((M : Int) :: l) M) = (List.range j).map (evAt ((M : Int) :: l) M) ++ [⟨ts, src, seq, ek, x, y⟩]) := Lib.hid (by
            rw [List.range_succ, List.map_append, List.map_singleton, HX.out]; rfl)
          have HLen : Hid (((List.range j).map (evAt ((M : Int) :: l) M)).length = j) := Lib.hid (by simp)
          generalize (List.range j).map (evAt ((M : Int) :: l) M) = evs at *
          simp only [RecD.val] at HT
          have HF := Lib.hid hF
          have hsz := hF.size
          have q0 := cell_of_one hF.b0
          have q2 := cell_of_one hF.b2
          have f2 := free_of_one hF.b2
          clear hF hsk hcl HX r0 r1 r2 r3 r4 rf
          have j0 : (0 : Int) ≤ (j : Int) := by omega
          go_wp2_with (first
            | (go_at_call 84; refine (next_any _ _ b off (2 + M + 20 * j) 20 n cap (2 + (M : Int) + 20 * (j : Int)) 20 (2 + (M : Int) + 20 * ((j + 1 : Nat) : Int)) (off + (2 + M + 20 * j)) (cap - (2 + M + 20 * j)) (by omega) rfl (by omega) rfl rfl _ q2 f2 q0 (by omega) (by omega) (by have := HL.out; omega) HC.out.1 HC.out.2).mono ?_; rintro e w1 ⟨rfl, rfl⟩))
          refine (HT.out _ (Below.setCell HF.out.below (by show w.heap.size ≤ w.heap.size + 1 + 1; omega) _)).mono ?_
          rintro e w1 ⟨rfl, hE1⟩
          have HN1 := Lib.hid (HF.out.next rfl hE1)
          clear hE1
          obtain ⟨r0, r1, r2, r3, r4⟩ := row5 HN1.out.b1
          have rf := row_free HN1.out.b1
          have hsz1 := HN1.out.size
          have l1 : w.heap.size + 1 < w1.heap.size := by omega
          have l2 : ¬ w.heap.size + 1 = w1.heap.size := by omega
          have HOwn : Hid (w1.ownsRow (w.heap.size + 3) 32 5 v j (evs.flatMap EvD.cells)) := Lib.hid (by have := HN1.out.own; rwa [HLen.out] at this)
          go_wp2_with (at_builtin; go_loud (refine wpList_append_own _ rfl (.tmp 98) (.tmp 101) 60 (by rfl) (w.heap.size + 3) 32 i2 (.agg #[.int .i64 0, .int .i64 0, .int .i64 0, .int .i64 0, .complex .f64 0 0]) 5 48 und60 hi2 hy0 hy1 hy2 rfl (by omega) v j (evs.flatMap EvD.cells) (by rfl) ((HOwn.out.alloc _).alloc _) ⟨w1.heap.size + 1, 0, none⟩ 1 1 (EvD.cells ⟨ts, src, seq, ek, x, y⟩) (by rfl) (by rfl) (news_at (by simp) 32 (EvD.cells ⟨ts, src, seq, ek, x, y⟩)) (EvD.oneCells _) (by unfold maxLen; omega) (by omega) (by simp; omega) ?_; intro v2 w2 hown2 hg2 hnil2; obtain ⟨g2, cap2, rfl, _, _⟩ := hown2.form (by omega); obtain ⟨cc, ff, hF2⟩ := HN1.out.step HLen.out hown2 hg2; have HF2 := Lib.hid hF2; clear hown2 hg2 hnil2 hF2))
          go_roundw
          case rel => exact ⟨j + 1, _, by omega, by go_num, by rw [HXS.out]; exact HF2.out⟩
          case measure => simp [intOf]; omega
        · have e : M = j := by omega
          subst e
          have hevl : ((List.range M).map (evAt ((M : Int) :: l) M)).length = M := by simp
          have hin : ∀ e ∈ (List.range M).map (evAt ((M : Int) :: l) M), e.inside := by
            intro e he
            obtain ⟨i, _, rfl⟩ := List.mem_map.1 he
            exact takeD_inside _ fun x hx => HRow.out.byte x (List.mem_cons_of_mem _ (List.mem_of_mem_drop (List.mem_of_mem_take hx)))
          have hdec : decO (k :: (M : Int) :: l) = ⟨k, l.take M, (List.range M).map (evAt ((M : Int) :: l) M), 0, 0⟩ := by
            simp [decO, p11]
          generalize (List.range M).map (evAt ((M : Int) :: l) M) = evs at *
          have hown := hF.own
          rw [hevl] at hown
          obtain ⟨g', c', rfl, hg3, hg4⟩ := hown.form (by omega)
          have hblk : ∃ cs, wr.heap[g']? = some (.cells cs 32 (0, 0)) := by
            rcases hown.2 with ⟨h, _⟩ | ⟨g2, cap2, cur, hv, _, hh, _⟩
            · cases h
            · injection hv with hv; injection hv with hv; injection hv with hv; subst hv; exact ⟨_, hh⟩
          have hrl := HTL.out
          have hrn : l.take M ≠ [] := by intro h; rw [h] at hrl; simp at hrl; omega
          obtain ⟨x, hx⟩ : ∃ x : OX, x = ⟨⟨k, l.take M, evs, 0, 0⟩, g, c, g', c'⟩ := ⟨_, rfl⟩
          have hcells : x.cells = [.int .u8 k, .slice (some ⟨g, 0, none⟩) M c, .slice (some ⟨g', 0, none⟩) M c', .int .i64 0, .int .u8 0] := by
            subst hx; simp only [OX.cells, OX.rowV, OX.evsV, if_neg hrn, hrl]
          have hval : x.val = .agg #[.int .u8 k, .slice (some ⟨g, 0, none⟩) M c, .slice (some ⟨g', 0, none⟩) M c', .int .i64 0, .int .u8 0] := by
            subst hx; simp only [OX.val, OX.rowV, OX.evsV, if_neg hrn, hrl]
          have HXA : Hid (x.At wr) := Lib.hid (by
            subst hx
            exact ⟨.told HK.out rfl rfl (by show 1 ≤ (l.take M).length; omega) (by show (l.take M).length ≤ 4; omega) (by show evs.length = (l.take M).length; omega) hin, hF.row, evrow_of_own hown hevl, fun _ => ⟨hF.blk, hblk⟩⟩)
          have HXD : Hid (x.d = decO (k :: (M : Int) :: l)) := Lib.hid (by rw [hdec]; subst hx; rfl)
          have HXC := Lib.hid (And.intro hcells hval)
          have HGe : Hid (x.b ≠ w.heap.size + 1 ∧ x.b' ≠ w.heap.size + 1) := Lib.hid (by subst hx; exact ⟨by show g ≠ _; omega, by show g' ≠ _; omega⟩)
          have HF := Lib.hid hF
          have q0 := cell_of_one hF.b0
          obtain ⟨r0, r1, r2, r3, r4⟩ := row5 hF.b1
          have rf := row_free hF.b1
          clear hx hcells hval hrn hrl hown hdec hin hevl hF hblk
          have HRB : Hid (Row w b off ((k :: (M : Int) :: l).take (2 + 21 * M))) := Lib.hid ⟨fun i hi => by
            have hi6 : i < 2 + 21 * M ∧ i < (k :: (M : Int) :: l).length := by rw [List.length_take] at hi; omega
            rw [HRow.out.cell i hi6.2, List.getD_eq_getElem?_getD, List.getD_eq_getElem?_getD, List.getElem?_take, if_pos hi6.1], fun x hx => HRow.out.byte x (List.mem_of_mem_take hx)⟩
          have HL6 : Hid (((k :: (M : Int) :: l).take (2 + 21 * M)).length = 2 + 21 * M) := Lib.hid (by have := HN.out; have := HL.out; rw [List.length_take, List.length_cons, List.length_cons]; omega)
          have HHd : Hid (headD (k :: (M : Int) :: l) = (0, 2 + 21 * M)) := Lib.hid (by rw [headD_match k M l HK.out (by omega) (by omega)]; simp)
          have HLz : Hid ((k :: (M : Int) :: l).length = n) := Lib.hid (by have := HN.out; simp; omega)
          have p13 : (2 : Int) + 21 * (M : Int) ≤ (cap : Int) := by omega
          have p14 : (0 : Int) ≤ 2 + 21 * (M : Int) := by omega
          cases hrt : x.d.right
          · have HRT := Lib.hid hrt
            clear hrt
            go_wp2_with (go_at_call 31; refine (put_one_no _ x _ (HXA.out.ext ((Ext.refl wr).alloc _)) (by rw [HXC.out.1]; exact heap_top rfl) HRT.out).mono ?_; rintro e w1 ⟨rfl, hE⟩; have q2 := Ext.heap (Ext.of1 hE) HF.out.b1; have T := Lib.hid (HF.out.below.trans (Ext.of1 hE)); obtain ⟨r0, r1, r2, r3, r4⟩ := row5 q2; have rf := row_free q2; clear hE q2)
            go_step3
            go_wp2
            rw [jump_ret]
            refine bodyPost_ret (v := .tuple #[zout, .slice none 0 0, .int .i64 11]) (by simp [results, Try.results59, go_sem, zout, *]) rfl (FirstR.no (firstD_no HHd.out (by rw [HLz.out]; exact HL.out) (fun h => ?_)) (set5 T.out (Nat.le_succ _) _ _ _ _ _))
            rw [← HXD.out, HRT.out] at h
            cases h
          · have HRT := Lib.hid hrt
            clear hrt
            by_cases heq : x.d.bytes = (k :: (M : Int) :: l).take (2 + 21 * M)
            · have HEQ := Lib.hid heq
              clear heq
              go_wp2_with (first
                | (go_at_call 31; refine (put_one _ x _ (HXA.out.ext ((Ext.refl wr).alloc _)) (by rw [HXC.out.1]; exact heap_top rfl) HRT.out).mono ?_; rintro e w1 ⟨A1, n1, c1, rfl, hCv, hE⟩; have q1 := cell_of_one (Ext.heap (Ext.of1 hE) HF.out.b0); have q2 := Ext.heap (Ext.of1 hE) HF.out.b1; have T := Lib.hid (HF.out.below.trans (Ext.of1 hE)); have HXA1 := Lib.hid (HXA.out.ext (Ext.of1 hE)); have HCv := Lib.hid hCv; obtain ⟨r0, r1, r2, r3, r4⟩ := row5 q2; have rf := row_free q2; have HQ2 := Lib.hid q2; clear hE q2 hCv)
                | (go_at_call 85; go_loud (refine (bequal_any _ _ _ _ _ _ x.d.bytes ((k :: (M : Int) :: l).take (2 + 21 * M)) _ HCv.out (Conv.of_row (T.out.row HRB.out) HL6.out) (OutD.bytes_byte HXA.out.fit) HRB.out.byte).mono ?_; rintro e w2 ⟨rfl, rfl⟩; rw [decide_eq_true HEQ.out])))
              by_cases hc6 : cap = 2 + 21 * M
              · have hn6 : n = 2 + 21 * M := by have := HL.out; have := HC.out.1; omega
                have c61 : ((2 : Int) + 21 * (M : Int)).toNat = 2 + 21 * M := by omega
                go_region
                all_goals
                  go_wp2
                  rw [jump_ret]
                  refine bodyPost_ret (v := .tuple #[.agg #[.int .u8 k, .slice (some ⟨g, 0, none⟩) M c, .slice (some ⟨g', 0, none⟩) M c', .int .i64 0, .int .u8 0], .slice _ 0 0, .int .i64 0]) (by simp [results, Try.results59, go_sem, *]; rfl) rfl
                    (FirstR.yes (x := x) (firstD_yes HHd.out (by rw [HLz.out]; exact HL.out) (by rw [← HXD.out, HRT.out]) (by rw [← HXD.out, HEQ.out])) HXD.out (at5 HXA1.out HGe.out ((((((But.refl (w.heap.size + 1) w1).set 0 _).set 1 _).set 2 _).set 3 _).set 4 _).drew) HXC.out.2 (by rw [HLz.out]; omega) (by omega) (fun h => absurd h (by omega)) (set5 T.out (Nat.le_succ _) _ _ _ _ _).drew)
              · have c6 : ¬ (2 + 21 * M = cap) := fun e => hc6 e.symm
                go_region
                all_goals
                  go_wp2
                  rw [jump_ret]
                  refine bodyPost_ret (v := .tuple #[.agg #[.int .u8 k, .slice (some ⟨g, 0, none⟩) M c, .slice (some ⟨g', 0, none⟩) M c', .int .i64 0, .int .u8 0], .slice (some ⟨b, off + (2 + 21 * M), none⟩) (n - (2 + 21 * M)) (cap - (2 + 21 * M)), .int .i64 0]) (by simp [results, Try.results59, go_sem, *]) rfl
                    (FirstR.yes (x := x) (firstD_yes HHd.out (by rw [HLz.out]; exact HL.out) (by rw [← HXD.out, HRT.out]) (by rw [← HXD.out, HEQ.out])) HXD.out (at5 HXA1.out HGe.out ((((((But.refl (w.heap.size + 1) w1).set 0 _).set 1 _).set 2 _).set 3 _).set 4 _).drew) HXC.out.2 (by rw [HLz.out]) rfl (fun _ => rfl) (set5 T.out (Nat.le_succ _) _ _ _ _ _).drew)
            · have HEQ := Lib.hid heq
              clear heq
              go_wp2_with (first
                | (go_at_call 31; refine (put_one _ x _ (HXA.out.ext ((Ext.refl wr).alloc _)) (by rw [HXC.out.1]; exact heap_top rfl) HRT.out).mono ?_; rintro e w1 ⟨A1, n1, c1, rfl, hCv, hE⟩; have q1 := cell_of_one (Ext.heap (Ext.of1 hE) HF.out.b0); have q2 := Ext.heap (Ext.of1 hE) HF.out.b1; have T := Lib.hid (HF.out.below.trans (Ext.of1 hE)); have HXA1 := Lib.hid (HXA.out.ext (Ext.of1 hE)); have HCv := Lib.hid hCv; obtain ⟨r0, r1, r2, r3, r4⟩ := row5 q2; have rf := row_free q2; have HQ2 := Lib.hid q2; clear hE q2 hCv)
                | (go_at_call 85; go_loud (refine (bequal_any _ _ _ _ _ _ x.d.bytes ((k :: (M : Int) :: l).take (2 + 21 * M)) _ HCv.out (Conv.of_row (T.out.row HRB.out) HL6.out) (OutD.bytes_byte HXA.out.fit) HRB.out.byte).mono ?_; rintro e w2 ⟨rfl, rfl⟩; rw [decide_eq_false HEQ.out])))
              go_step3
              go_wp2
              rw [jump_ret]
              refine bodyPost_ret (v := .tuple #[zout, .slice none 0 0, .int .i64 11]) (by simp [results, Try.results59, go_sem, zout, *]) rfl (FirstR.no (firstD_no HHd.out (by rw [HLz.out]; exact HL.out) (fun _ h => HEQ.out (by rw [HXD.out]; exact h))) (set5 T.out (Nat.le_succ _) _ _ _ _ _))

end Go.Proofs.Ytcbneobdelbhlaa
