/-
  Package split: All.
-/
import Derived.Test.YtcbneobdelbhlaaSb
namespace Go.Proofs.Ytcbneobdelbhlaa
open Go.RowKit Go.Shelf
attribute [local go_sem] Oper.semAt_some

theorem info46 : (Try.prog.info? 46).map (fun i => (i.zero, i.size, i.bytes)) = some (some (.agg #[.int .i64 0, .slice none 0 0, .bool false]), 3, 40) := by kernel_rfl
theorem und42 : Try.prog.underlying 42 = some (.slice 46) := by kernel_rfl

theorem pieces_any (A : Option Addr) (n cap : Nat) (w : World) :
    Calls Try.prog 49 #[.slice A n cap] w fun e w' => e = .returned (.func (.func 79) #[] #[.pointer (some ⟨w.heap.size, 0, none⟩)]) ∧ w.alloc (.cells #[.slice A n cap] 30) = w' := by
  go_enter Try.func49, Try.ntmps49
  go_wp2
  go_ret
  exact ⟨rfl, rfl⟩

/-- A row of another type of cells is another block. -/
theorem row_ne' {W : World} {base n g cap size : Nat} {e t : TypeId} {cs : Array Value} {xs : List Value} (h : W.ownsRow base e size (.slice (some ⟨g, 0, none⟩) n cap) n xs) {b : Nat} (hb : W.heap[b]? = some (.cells cs t (0, 0))) (ht : t ≠ e) : b ≠ g := by
  rintro rfl
  rcases h.2 with ⟨h, _⟩ | ⟨g', cap', cur, hv, _, hh, _⟩
  · cases h
  · injection hv with hv
    injection hv with hv
    injection hv with hv
    subst hv
    rw [hb] at hh
    injection hh with hh
    injection hh with _ hh
    exact ht hh

/-- A box n0 holds a row of one's own that grows in a round of a range. -/
theorem box_step {n0 c k m size : Nat} {w W W1 w2 : World} {t e : TypeId} {v v' : Value} {xs news : List Value} {Kz : Nat → Prop}
    (hbw : Below n0 w W) (hbox : W.heap[n0]? = some (.cells #[v] t (0, 0))) (hown : W.ownsRow (n0 + 2) e size v k xs) (hE : Ext W W1)
    (hown' : w2.ownsRow (n0 + 2) e size v' (k + m) (xs ++ news)) (hg : W1.grownBy w2 v.ownBlock) (hs : n0 + 2 ≤ W.heap.size) (hKz : ∀ i, Kz i → i < n0 ∨ i = n0 + 1) :
    w2.cell? ⟨n0, 0, none⟩ = some v ∧ w2.frozen? ⟨n0, 0, none⟩ = false ∧ Kept (ZB c Kz) W (w2.setCell ⟨n0, 0, none⟩ v') ∧ Below n0 w (w2.setCell ⟨n0, 0, none⟩ v') ∧
    (w2.setCell ⟨n0, 0, none⟩ v').heap[n0]? = some (.cells #[v'] t (0, 0)) ∧ (w2.setCell ⟨n0, 0, none⟩ v').ownsRow (n0 + 2) e size v' (k + m) (xs ++ news) ∧ n0 + 2 ≤ (w2.setCell ⟨n0, 0, none⟩ v').heap.size ∧
    ∀ g cap n ys, e ≠ 5 → t ≠ 5 → W1.ownsRow 0 5 1 (.slice (some ⟨g, 0, none⟩) n cap) n ys → (w2.setCell ⟨n0, 0, none⟩ v').ownsRow 0 5 1 (.slice (some ⟨g, 0, none⟩) n cap) n ys := by
  have hrow : ∀ j, v.ownBlock = some j → n0 + 2 ≤ j := fun j hj => (hown.lt j hj).1
  have hE1 := Below.size hE
  have h1 : W1.heap[n0]? = some (.cells #[v] t (0, 0)) := Ext.heap hE hbox
  have h2 : w2.heap[n0]? = some (.cells #[v] t (0, 0)) := (hg.block n0 (by omega) (fun e => by have := hrow n0 e.symm; omega)).trans h1
  have hs2 := hg.size
  have B1 : Below n0 w W1 := hbw.trans (Below.mono hE (by omega))
  refine ⟨cell_of_one h2, free_of_one h2, ZB_set (Kept.grown (Kept.of_below hE) hg ?_) (cell_of_one h2) ?_ _, ?_, one_setCell h2, ?_, ?_, ?_⟩
  · intro j o hj ho hz
    have hj2 := hrow j hj
    rcases hz with hz | ⟨_, hz⟩
    · have := hKz j hz; omega
    · rcases hown.2 with ⟨rfl, _⟩ | ⟨g, cap, cur, rfl, hg', hh, _⟩
      · simp [Value.ownBlock] at hj
      · have : g = j := by simpa [Value.ownBlock] using hj
        subst this
        have h3 := Ext.heap hE hh
        rw [h3] at ho
        cases ho
        cases hz
  · intro hz; have := hKz _ hz; simp at this
  · exact (B1.grown hg (by omega) (fun j hj => by have := hrow j hj; omega)).setCell (p := ⟨n0, 0, none⟩) (Nat.le_refl _) _
  · exact ownsRow_setCell_below hown' (by simp) _
  · simp [World.setCell]; omega
  · intro g cap n ys he ht hy
    rcases hy.2 with ⟨h, _⟩ | ⟨g', cap', cur, hv, hb, hh, r⟩
    · cases h
    · injection hv with hv _ hc
      injection hv with hv
      injection hv with hv
      subst hv
      subst hc
      have hne : g ≠ n0 := fun e => by subst e; rw [h1] at hh; injection hh with hh; injection hh with _ hh; exact ht hh
      have h3 : w2.heap[g]? = some (.cells cur 5 (0, 0)) := by
        refine (hg.block g (heap_lt hh) (fun e' => ?_)).trans hh
        rcases hown.2 with ⟨rfl, _⟩ | ⟨g2, cap2, cur2, rfl, _, hh2, _⟩
        · simp [Value.ownBlock] at e'
        · have : g2 = g := by simpa [Value.ownBlock] using e'.symm
          subst this
          rw [Ext.heap hE hh2] at hh
          injection hh with hh
          injection hh with _ hh
          exact he hh
      exact ⟨hy.1, .inr ⟨g, cap, cur, rfl, hb, (Below.heap_setCell w2 ⟨n0, 0, none⟩ v' _ hne).trans h3, r⟩⟩

def PX.cells (x : PX) : List Value := [.int .i64 x.d.at_, .slice (some ⟨x.g, 0, none⟩) x.d.bytes.length x.cap, .bool x.d.cut]

/-- What All has made so far. -/
structure AllI (n0 : Nat) (w : World) (zs : List Int) (pre : List PX) (W : World) : Prop where
  up : pre.map PX.d = (pieces zs).take pre.length
  below : Below n0 w W
  size : n0 + 2 ≤ W.heap.size
  box : ∃ v, W.heap[n0]? = some (.cells #[v] 42 (0, 0)) ∧ W.ownsRow (n0 + 2) 46 3 v pre.length (pre.flatMap PX.cells)
  own : ∀ x ∈ pre, x.Owns W

theorem ZI_owns {c : Nat} {A B : World} {base e size n : Nat} {v : Value} {xs : List Value} (hk : Kept (ZI c fun _ => False) A B) (h : A.ownsRow base e size v n xs) : B.ownsRow base e size v n xs := ZI_row hk h (fun _ _ h => h.elim)

theorem AllI.keep {n0 c : Nat} {w A B : World} {zs : List Int} {pre : List PX} (hc : n0 ≤ c) (h : AllI n0 w zs pre A) (hk : Kept (ZI c fun _ => False) A B) : AllI n0 w zs pre B := by
  obtain ⟨h1, h2, h3, ⟨v, h4, h5⟩, h6⟩ := h
  exact ⟨h1, ZI_below hk h2 hc (by omega) (fun _ _ h => h.elim), Nat.le_trans h3 hk.size, ⟨v, hk.same _ _ h4 ⟨fun h => h.elim, .inr rfl⟩, ZI_owns hk h5⟩, fun x hx => ZI_owns hk (h6 x hx)⟩

theorem pcs_len : ∀ (f a : Nat) (zs : List Int), (pcs f a zs).length ≤ zs.length
  | 0, _, _ => by simp [pcs]
  | _ + 1, _, [] => by simp [pcs]
  | f + 1, a, c :: rest => by
    have := pcs_len f (a + 1 + min c.toNat rest.length) (rest.drop c.toNat)
    simp [pcs] at this ⊢
    omega

theorem own_keep {W : World} {n0 D g cap n : Nat} {t : TypeId} {v u : Value} {ys : List Value} (h : W.ownsRow 0 5 1 (.slice (some ⟨g, 0, none⟩) n cap) n ys) (hb : W.heap[n0]? = some (.cells #[v] t (0, 0))) (ht : t ≠ 5)
    (hK : (W.setCell ⟨n0, 0, none⟩ u).heap[D]? = some (.deferred (some []))) : ((W.setCell ⟨n0, 0, none⟩ u).putObj D (.deferred none)).ownsRow 0 5 1 (.slice (some ⟨g, 0, none⟩) n cap) n ys := by
  refine ownsRow_putObj (ownsRow_setCell_other h ?_ _) _ hK rfl
  have := row_ne' h hb ht
  intro e
  exact this (by simpa [Value.ownBlock] using e.symm)

theorem PX.oneCells (x : PX) : ∀ u ∈ x.cells, u.oneCell' = true := by
  intro u hu
  simp only [PX.cells, List.mem_cons, List.not_mem_nil, or_false] at hu
  rcases hu with rfl | rfl | rfl <;> rfl

theorem news_new (W : World) (t : TypeId) (cs : List Value) : ∀ j u, cs[j]? = some u → (W.alloc (.cells cs.toArray t)).cell? ((⟨W.heap.size, 0, none⟩ : Addr).add j) = some u := by
  intro j u hj
  have e : (⟨W.heap.size, 0, none⟩ : Addr).add j = ⟨W.heap.size, j, none⟩ := by unfold Addr.add; split <;> simp_all
  rw [e, cell_of_row _ _ _ _ _ _ (World.alloc_heap_new W _)]
  simpa using hj

theorem cells_new (W : World) (x : PX) : ∀ j u, x.cells[j]? = some u → (W.alloc (.cells #[.int .i64 x.d.at_, .slice (some ⟨x.g, 0, none⟩) x.d.bytes.length x.cap, .bool x.d.cut] 46)).cell? ((⟨W.heap.size, 0, none⟩ : Addr).add j) = some u :=
  news_new W 46 x.cells

theorem all_step {n0 c b3 : Nat} {Kz : Nat → Prop} {w W w2 : World} {zs : List Int} {pre : List PX} {x : PX} {v : Value} {o : Obj} {g' cap' : Nat}
    (h : pre.map PX.d = (pieces zs).take pre.length ∧ Below n0 w W ∧ n0 + 2 ≤ W.heap.size ∧ W.heap[n0]? = some (.cells #[v] 42 (0, 0)) ∧ W.ownsRow (n0 + 2) 46 3 v pre.length (pre.flatMap PX.cells) ∧ (∀ x ∈ pre, x.Owns W) ∧ x.Owns W ∧ PX.Next zs pre x ∧ (∀ i, Kz i → i < n0 ∨ i = n0 + 1) ∧ c = c ∧ b3 = b3)
    (hown' : w2.ownsRow (n0 + 2) 46 3 (.slice (some ⟨g', 0, none⟩) (pre.length + 1) cap') (pre.length + 1) (pre.flatMap PX.cells ++ x.cells)) (hg : (W.alloc o).grownBy w2 v.ownBlock) :
    w2.cell? ⟨n0, 0, none⟩ = some v ∧ w2.frozen? ⟨n0, 0, none⟩ = false ∧ Kept (ZB c Kz) W (w2.setCell ⟨n0, 0, none⟩ (.slice (some ⟨g', 0, none⟩) (pre.length + 1) cap')) ∧ AllI n0 w zs (pre ++ [x]) (w2.setCell ⟨n0, 0, none⟩ (.slice (some ⟨g', 0, none⟩) (pre.length + 1) cap')) := by
  obtain ⟨h1, h2, h3, h4, h5, h6, h7, h8, h9, _⟩ := h
  obtain ⟨cc, ff, K, B, hh, ho, hs, oth⟩ := box_step (c := c) (Kz := Kz) h2 h4 h5 ((Ext.refl W).alloc o) hown' hg h3 h9
  refine ⟨cc, ff, K, ⟨?_, B, hs, ⟨_, hh, ?_⟩, ?_⟩⟩
  · rw [List.map_append, List.map_cons, List.map_nil, h8.2, List.length_append]; rfl
  · rw [List.length_append, List.flatMap_append]; simpa using ho
  · intro y hy
    rcases List.mem_append.1 hy with hy | hy
    · exact oth _ _ _ _ (by decide) (by decide) (owns_ext (h6 y hy) ((Ext.refl W).alloc o))
    · rw [List.mem_singleton] at hy
      subst hy
      exact oth _ _ _ _ (by decide) (by decide) (owns_ext h7 ((Ext.refl W).alloc o))

def PieceOk (zs : List Int) (pre : List PX) (x : PX) (W : World) : Prop := x.Owns W ∧ PX.Next zs pre x

set_option maxHeartbeats 1000000 in
theorem pieces_seq0 (bb : Nat) (A : Option Addr) (cap : Nat) (w : World) (h : w.cell? ⟨bb, 0, none⟩ = some (.slice A 0 cap)) :
    SeqZ Try.prog 79 #[.pointer (some ⟨bb, 0, none⟩)] encP (fun i => i = bb) (fun _ => False) (PieceOk []) (fun xs => xs.map PX.d = pieces []) (fun _ => True) w := by
  intro l J Jx W hW hJ hJx hY h0
  have hb : W.cell? ⟨bb, 0, none⟩ = some (.slice A 0 cap) := hW.cell h (fun _ _ => rfl)
  clear hY hJ hJx hW h
  refine callsIn_of_wp Try.func79 rfl trivial ?_
  simp only [Try.ntmps79, List.size_toArray, List.length_cons, List.length_nil, Nat.reduceAdd, Nat.reduceSub, Array.replicate_succ, Array.replicate_zero, List.push_toArray, List.append_toArray, List.nil_append, List.cons_append]
  gi_wp2
  gi_loopw [3] (fun v W1 => v = .int .i64 0 ∧ W1 = W) (fun _ _ => 0)
  case atStart => exact ⟨rfl, rfl⟩
  case round =>
    obtain ⟨rfl, rfl⟩ := hrel
    gi_wp2
    go_end0
    exact ⟨⟨_, rfl⟩, .inl ⟨[], rfl, h0⟩⟩

set_option maxHeartbeats 4000000 in
theorem all_core (A : Option Addr) (n cap : Nat) (zs : List Int) (w : World) (hlen : zs.length ≤ 5000) (Kz : Nat → Prop) (hKz : ∀ i, Kz i → i < w.heap.size ∨ i = w.heap.size + 1)
    (hseq : SeqZ Try.prog 79 #[.pointer (some ⟨w.heap.size + 1, 0, none⟩)] encP Kz (fun _ => False) (PieceOk zs) (fun xs => xs.map PX.d = pieces zs) (fun _ => True) ((w.alloc (.cells #[.slice none 0 0] 42)).alloc (.cells #[.slice A n cap] 30))) :
    Calls Try.prog 20 #[.slice A n cap] w fun e w' => ∃ v, e = .returned v ∧ ∃ xs : List PX, w'.ownsRow w.heap.size 46 3 v xs.length (xs.flatMap PX.cells) ∧ (∀ x ∈ xs, x.Owns w') ∧ xs.map PX.d = pieces zs ∧ Ext w w' := by
  have HL := Lib.hid (show (pieces zs).length ≤ 5000 by have := pcs_len zs.length 0 zs; unfold pieces; omega)
  have HS := Lib.hid hseq
  have HK := Lib.hid hKz
  clear hseq hKz hlen
  refine calls_of_wp_m Try.func20 rfl ?_
  simp only [Try.ntmps20, List.size_toArray, List.length_cons, List.length_nil, Nat.reduceAdd, Nat.reduceSub, Array.replicate_succ, Array.replicate_zero, List.push_toArray, List.append_toArray, List.nil_append, List.cons_append]
  go_wp2_with (go_at_call 49; refine (pieces_any _ _ _ _).mono ?_; rintro e w1 ⟨rfl, rfl⟩)
  refine wp_range (gf := 79) rfl (enters_of Try.func79 (by kernel_rfl) rfl) HS.out (fun k hk => by have := HK.out k hk; simp; omega) (fun _ h => h.elim) (fun _ => rfl)
    (AllI w.heap.size w zs) (fun _ _ _ => False) ?hI (fun _ _ _ _ h _ => h) ?h0
    (fun pre x a' W => ∃ b3 : Nat, Fr a' #[.slice A n cap, undef, .pointer (some ⟨w.heap.size, 0, none⟩), .pointer (some ⟨b3, 0, none⟩), .slice A n cap, .func (.func 79) #[] #[.pointer (some ⟨w.heap.size + 1, 0, none⟩)], x.val, undef, undef, undef, undef, undef] ∧
      W.heap[b3]? = some (.cells x.cells.toArray 46 (0, 0)) ∧ Fact (AllI w.heap.size w zs pre W ∧ x.Owns W ∧ PX.Next zs pre x))
    ?hA ?assign ?body ?done (fun _ _ _ _ _ _ h => h.elim)
  case hI =>
    intro s A B h hk
    exact AllI.keep (by simp; omega) h hk
  case h0 => exact ⟨rfl, ((Below.refl _ w).alloc (Nat.le_refl _) _).alloc (by simp) _, by simp, ⟨.slice none 0 0, (Below.heap_alloc _ _ _ (by simp)).trans (World.alloc_heap_new w _), World.ownsRow_nil _ _ _ _⟩, fun x hx => by cases hx⟩
  case hA =>
    rintro pre x a' A B ⟨b3, h1, h2, h3, h4, h5⟩ hk
    exact ⟨b3, h1, hk.same _ _ h2 ⟨fun h => h.elim, .inr rfl⟩, AllI.keep (by simp; omega) h3 hk, ZI_owns hk h4, h5⟩
  case assign =>
    rintro l pre x W hI _ ⟨hg1, hg2⟩
    unfold encP PX.val
    gi_wp2
    exact ⟨(Kept.refl _ _).alloc _, W.heap.size, rfl, World.alloc_heap_new _ _, AllI.keep (c := w.heap.size) (Nat.le_refl _) hI (Kept.of_below ((Ext.refl W).alloc _)), owns_ext hg1 ((Ext.refl W).alloc _), hg2⟩
  case body =>
    obtain ⟨i0, hi, hz0, hz1, hz2⟩ := info_parts info46
    rintro l pre x a' W ⟨b3, rfl, hb3, ⟨h1, h2, h3, ⟨v, h4, h5⟩, h6⟩, h7, h8, h9⟩
    have c0 := cell_of_one h4
    have f0 := free_of_one h4
    obtain ⟨k0, k1, k2⟩ := row3 hb3
    have hlen : pre.length < 5000 := by have := HL.out; omega
    have hl3 := heap_lt hb3
    have X := Lib.hid (And.intro h1 (And.intro h2 (And.intro h3 (And.intro h4 (And.intro h5 (And.intro h6 (And.intro h7 (And.intro (And.intro h8 h9) (And.intro HK.out (And.intro (Eq.refl (w.heap.size + 2)) (Eq.refl b3)))))))))))
    have lt0 : w.heap.size < W.heap.size := by omega
    clear h1 h2 h3 h4 h5 h6 h7 h8 h9 hb3
    unfold PX.val
    gi_wp2_with (gi_at_builtin; refine wpListIn_append_own _ rfl (.tmp 7) (.tmp 9) 42 (by rfl) (w.heap.size + 2) 46 i0 (.agg #[.int .i64 0, .slice none 0 0, .bool false]) 3 40 und42 hi hz0 hz1 hz2 rfl (by omega) v pre.length (pre.flatMap PX.cells) (by rfl) (X.out.2.2.2.2.1.alloc _) ⟨W.heap.size, 0, none⟩ 1 1 x.cells (by rfl) (by rfl) (cells_new W x) (x.oneCells) (by unfold maxLen; omega) (by omega) (by have := X.out.2.2.1; simp; omega) ?_; intro v' w2 hown' hg hnil; obtain ⟨g', cap', rfl, _, _⟩ := hown'.form (by omega); obtain ⟨cc, ff, Z⟩ := all_step X.out hown' hg; clear hown' hg hnil)
    exact Z
  case done =>
    rintro D xs W hD hS ⟨h1, h2, h3, ⟨v, h4, h5⟩, h6⟩ hK
    have c0 := cell_of_one h4
    have f0 := free_of_one h4
    have hD2 : w.heap.size + 2 ≤ D := by simpa using hD
    have X := Lib.hid (And.intro h2 (And.intro h5 (And.intro h6 (And.intro hS (And.intro hD2 h4)))))
    have XK := Lib.hid hK
    have hvf : v = .slice none 0 0 ∨ ∃ g c, v = .slice (some ⟨g, 0, none⟩) xs.length c := by
      rcases h5.2 with ⟨h, _⟩ | ⟨g, c, _, h, _⟩
      · exact .inl h
      · exact .inr ⟨g, c, h⟩
    clear h1 h2 h3 h4 h5 h6 hK hD hD2 hS
    rcases hvf with rfl | ⟨g, cp, rfl⟩
    all_goals
      go_wp2
      obtain ⟨h2, h5, h6, hS, hD2, h4⟩ := X.out
    · have hK2 := set_defer XK.out c0 (.slice none 0 0)
      refine postM_ret1 (D := D) hK2 (v := .slice none 0 0) ?_ ⟨_, rfl, xs, ?_, ?_, hS, ?_⟩
      · have hc := put_cell hK2 (World.cell?_setCell_same' _ _ (.slice none 0 0) (by rw [c0]; rfl)) (.deferred none)
        simp [results, Try.results20, go_sem, hc]
      · exact World.ownsRow.mono (ownsRow_putObj (ownsRow_setCell_below h5 (by simp) _) _ hK2 rfl) (by omega)
      · exact fun x hx => own_keep (h6 x hx) h4 (by decide) hK2
      · exact below_putObj (h2.setCell (p := ⟨w.heap.size, 0, none⟩) (by simp) _) (by omega) _
    · have hK2 := set_defer XK.out c0 (.slice (some ⟨g, 0, none⟩) xs.length cp)
      refine postM_ret1 (D := D) hK2 (v := .slice (some ⟨g, 0, none⟩) xs.length cp) ?_ ⟨_, rfl, xs, ?_, ?_, hS, ?_⟩
      · have hc := put_cell hK2 (World.cell?_setCell_same' _ _ (.slice (some ⟨g, 0, none⟩) xs.length cp) (by rw [c0]; rfl)) (.deferred none)
        simp [results, Try.results20, go_sem, hc]
      · exact World.ownsRow.mono (ownsRow_putObj (ownsRow_setCell_below h5 (by simp) _) _ hK2 rfl) (by omega)
      · exact fun x hx => own_keep (h6 x hx) h4 (by decide) hK2
      · exact below_putObj (h2.setCell (p := ⟨w.heap.size, 0, none⟩) (by simp) _) (by omega) _

theorem all_any (b off n cap : Nat) (zs : List Int) (w : World) (hn : zs.length = n) (hm : n ≤ 5000) (hcap : n ≤ cap) (hr : Row w b off zs) (hb : b < w.heap.size) :
    Calls Try.prog 20 #[.slice (some ⟨b, off, none⟩) n cap] w fun e w' => ∃ v, e = .returned v ∧ ∃ xs : List PX, w'.ownsRow w.heap.size 46 3 v xs.length (xs.flatMap PX.cells) ∧ (∀ x ∈ xs, x.Owns w') ∧ xs.map PX.d = pieces zs ∧ Ext w w' := by
  have hr2 : Row ((w.alloc (.cells #[.slice none 0 0] 42)).alloc (.cells #[.slice (some ⟨b, off, none⟩) n cap] 30)) b off zs := (((Ext.refl w).alloc _).alloc _).row hr
  exact all_core _ n cap zs w (by omega) (fun i => i = w.heap.size + 1 ∨ i = b) (by rintro i (rfl | rfl) <;> omega) (pieces_seq (w.heap.size + 1) b off n cap zs _ hn hm hcap (by simp [go_sem]) hr2)

theorem all_empty (A : Option Addr) (cap : Nat) (w : World) :
    Calls Try.prog 20 #[.slice A 0 cap] w fun e w' => ∃ v, e = .returned v ∧ ∃ xs : List PX, w'.ownsRow w.heap.size 46 3 v xs.length (xs.flatMap PX.cells) ∧ (∀ x ∈ xs, x.Owns w') ∧ xs.map PX.d = pieces [] ∧ Ext w w' :=
  all_core _ 0 cap [] w (by simp) (fun i => i = w.heap.size + 1) (by rintro i rfl; omega) (pieces_seq0 (w.heap.size + 1) A cap _ (by simp [go_sem]))

end Go.Proofs.Ytcbneobdelbhlaa
