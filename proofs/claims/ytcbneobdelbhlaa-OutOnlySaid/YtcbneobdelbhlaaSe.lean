/-
  Package split: Recs.
-/
import Derived.Test.YtcbneobdelbhlaaSd
namespace Go.Proofs.Ytcbneobdelbhlaa
open Go.RowKit Go.Shelf
attribute [local go_sem] Oper.semAt_some

def RecD.cells (r : RecD) : List Value := [.int .u8 r.kd, .int .i64 r.ts, .int .i64 r.src, .int .i64 r.seq, .int .i64 r.ek, .complex .f64 (fb r.x) (fb r.y), .int .i64 r.rs, .int .i64 r.rt]
theorem RecD.oneCells (r : RecD) : ∀ u ∈ r.cells, u.oneCell' = true := by
  intro u hu
  simp only [RecD.cells, List.mem_cons, List.not_mem_nil, or_false] at hu
  rcases hu with rfl | rfl | rfl | rfl | rfl | rfl | rfl | rfl <;> rfl

/-- The record of a piece, if it is one. -/
def recOf? (d : PieceD) : Option RecD := if (recOf d.cut d.bytes).2 = 0 then some (recOf d.cut d.bytes).1 else none
def recsOf (l : List PieceD) : List RecD := l.filterMap recOf?
/-- The records of a script's pieces. -/
def recsD (zs : List Int) : List RecD := recsOf (pieces zs)

theorem recsOf_snoc (l : List PieceD) (d : PieceD) : recsOf (l ++ [d]) = recsOf l ++ (recOf? d).toList := by
  simp [recsOf, List.filterMap_append, List.filterMap_cons]
  cases recOf? d <;> rfl
theorem recsOf_len (l : List PieceD) : (recsOf l).length ≤ l.length := List.length_filterMap_le _ _

theorem info34 : (Try.prog.info? 34).map (fun i => (i.zero, i.size, i.bytes)) = some (some zrec, 8, 72) := by kernel_rfl
theorem und49 : Try.prog.underlying 49 = some (.slice 34) := by kernel_rfl

theorem pcs_byte : ∀ (f a : Nat) (zs : List Int) (d : PieceD), d ∈ pcs f a zs → ∀ x ∈ d.bytes, x ∈ zs
  | 0, _, _, d, h => by simp [pcs] at h
  | _ + 1, _, [], d, h => by simp [pcs] at h
  | f + 1, a, c :: rest, d, h => by
    simp only [pcs, List.mem_cons] at h
    intro x hx
    rcases h with rfl | h
    · exact List.mem_cons_of_mem _ (List.mem_of_mem_take hx)
    · exact List.mem_cons_of_mem _ (List.mem_of_mem_drop (pcs_byte f _ _ d h x hx))
theorem PX.Next.mem {zs : List Int} {pre : List PX} {x : PX} (h : PX.Next zs pre x) : x.d ∈ pieces zs := by
  have : x.d ∈ (pieces zs).take (pre.length + 1) := by rw [← h.2]; simp
  exact List.mem_of_mem_take this

theorem row_of_own {W : World} {g n cap : Nat} {ys : List Int} (h : W.ownsRow 0 5 1 (.slice (some ⟨g, 0, none⟩) n cap) n (ys.map (Value.int .u8))) (hb : ∀ x ∈ ys, 0 ≤ x ∧ x ≤ 255) : Row W g 0 ys ∧ n ≤ cap ∧ cap ≤ maxLen ∧ ys.length = n := by
  have hl : ys.length = n := by have := h.1; simpa using this
  refine ⟨⟨fun i hi => ?_, hb⟩, ?_, ?_, hl⟩
  · rw [Nat.zero_add, h.cellAt i (by omega)]
    simp [List.getD_eq_getElem?_getD, List.getElem?_eq_getElem hi]
  · rcases h.2 with ⟨h, _⟩ | ⟨g', cap', cur, hv, _, _, h1, _⟩
    · cases h
    · injection hv with _ _ hc; subst hc; exact h1
  · rcases h.2 with ⟨h, _⟩ | ⟨g', cap', cur, hv, _, _, _, h1, _⟩
    · cases h
    · injection hv with _ _ hc; subst hc; exact h1

/-- What Recs has made so far. -/
structure RecsI (n0 : Nat) (w : World) (zs : List Int) (pre : List PX) (W : World) : Prop where
  up : pre.map PX.d = (pieces zs).take pre.length
  below : Below n0 w W
  size : n0 + 2 ≤ W.heap.size
  box : ∃ v, W.heap[n0]? = some (.cells #[v] 49 (0, 0)) ∧ W.ownsRow (n0 + 2) 34 8 v (recsOf (pre.map PX.d)).length ((recsOf (pre.map PX.d)).flatMap RecD.cells)

theorem RecsI.keep {n0 c : Nat} {w A B : World} {zs : List Int} {pre : List PX} (hc : n0 ≤ c) (h : RecsI n0 w zs pre A) (hk : Kept (ZI c fun _ => False) A B) : RecsI n0 w zs pre B := by
  obtain ⟨h1, h2, h3, ⟨v, h4, h5⟩⟩ := h
  exact ⟨h1, ZI_below hk h2 hc (by omega) (fun _ _ h => h.elim), Nat.le_trans h3 hk.size, ⟨v, hk.same _ _ h4 ⟨fun h => h.elim, .inr rfl⟩, ZI_owns hk h5⟩⟩

theorem recs_skip {n0 : Nat} {w W W1 : World} {zs : List Int} {pre : List PX} {x : PX} (h : RecsI n0 w zs pre W) (hx : PX.Next zs pre x) (hn : recOf? x.d = none) (hE : Ext W W1) : RecsI n0 w zs (pre ++ [x]) W1 := by
  obtain ⟨h1, h2, h3, ⟨v, h4, h5⟩⟩ := h
  refine ⟨?_, h2.trans (Below.mono hE (by omega)), Nat.le_trans h3 (Below.size hE), v, hE.heap h4, ?_⟩
  · rw [List.map_append, List.map_cons, List.map_nil, hx.2, List.length_append]; rfl
  · rw [List.map_append, List.map_cons, List.map_nil, recsOf_snoc, hn]
    simpa using owns_ext h5 hE

theorem recs_step {n0 c : Nat} {w W W1 w2 : World} {zs : List Int} {pre : List PX} {x : PX} {v : Value} {g' cap' : Nat} {r : RecD} {Kz : Nat → Prop} {k : Nat} {cs : List Value}
    (h2 : Below n0 w W) (h3 : n0 + 2 ≤ W.heap.size) (h4 : W.heap[n0]? = some (.cells #[v] 49 (0, 0))) (h5 : W.ownsRow (n0 + 2) 34 8 v k cs)
    (hk : k = (recsOf (pre.map PX.d)).length) (hcs : cs = (recsOf (pre.map PX.d)).flatMap RecD.cells) (hx : PX.Next zs pre x) (hr : recOf? x.d = some r) (hKz : ∀ i, Kz i → i < n0 ∨ i = n0 + 1) (hE : Ext W W1)
    (hown' : w2.ownsRow (n0 + 2) 34 8 (.slice (some ⟨g', 0, none⟩) (k + 1) cap') (k + 1) (cs ++ r.cells)) (hg : W1.grownBy w2 v.ownBlock) :
    w2.cell? ⟨n0, 0, none⟩ = some v ∧ w2.frozen? ⟨n0, 0, none⟩ = false ∧ Kept (ZB c Kz) W (w2.setCell ⟨n0, 0, none⟩ (.slice (some ⟨g', 0, none⟩) (k + 1) cap')) ∧ RecsI n0 w zs (pre ++ [x]) (w2.setCell ⟨n0, 0, none⟩ (.slice (some ⟨g', 0, none⟩) (k + 1) cap')) := by
  obtain ⟨cc, ff, K, B, hh, ho, hs, _⟩ := box_step (c := c) (Kz := Kz) h2 h4 h5 hE hown' hg h3 hKz
  refine ⟨cc, ff, K, ⟨?_, B, hs, _, hh, ?_⟩⟩
  · rw [List.map_append, List.map_cons, List.map_nil, hx.2, List.length_append]; rfl
  · subst hk hcs
    rw [List.map_append, List.map_cons, List.map_nil, recsOf_snoc, hr, List.length_append, List.flatMap_append]; simpa using ho

set_option maxHeartbeats 4000000 in
theorem recs_core (A : Option Addr) (n cap : Nat) (zs : List Int) (w : World) (hlen : zs.length ≤ 5000) (hbyte : ∀ x ∈ zs, 0 ≤ x ∧ x ≤ 255) (Kz : Nat → Prop) (hKz : ∀ i, Kz i → i < w.heap.size ∨ i = w.heap.size + 1)
    (hseq : SeqZ Try.prog 79 #[.pointer (some ⟨w.heap.size + 1, 0, none⟩)] encP Kz (fun _ => False) (PieceOk zs) (fun xs => xs.map PX.d = pieces zs) (fun _ => True) ((w.alloc (.cells #[.slice none 0 0] 49)).alloc (.cells #[.slice A n cap] 30))) :
    Calls Try.prog 23 #[.slice A n cap] w fun e w' => ∃ v, e = .returned v ∧ w'.ownsRow w.heap.size 34 8 v (recsD zs).length ((recsD zs).flatMap RecD.cells) ∧ Ext w w' := by
  have HL := Lib.hid (show (pieces zs).length ≤ 5000 by have := pcs_len zs.length 0 zs; unfold pieces; omega)
  have HS := Lib.hid hseq
  have HK := Lib.hid hKz
  have HB := Lib.hid hbyte
  clear hseq hKz hlen hbyte
  refine calls_of_wp_m Try.func23 rfl ?_
  simp only [Try.ntmps23, List.size_toArray, List.length_cons, List.length_nil, Nat.reduceAdd, Nat.reduceSub, Array.replicate_succ, Array.replicate_zero, List.push_toArray, List.append_toArray, List.nil_append, List.cons_append]
  go_wp2_with (go_at_call 49; refine (pieces_any _ _ _ _).mono ?_; rintro e w1 ⟨rfl, rfl⟩)
  refine wp_range (gf := 79) rfl (enters_of Try.func79 (by kernel_rfl) rfl) HS.out (fun k hk => by have := HK.out k hk; simp; omega) (fun _ h => h.elim) (fun _ => rfl)
    (RecsI w.heap.size w zs) (fun _ _ _ => False) ?hI (fun _ _ _ _ h _ => h) ?h0
    (fun pre x a' W => ∃ b3 : Nat, Fr a' #[.slice A n cap, undef, .pointer (some ⟨w.heap.size, 0, none⟩), .pointer (some ⟨b3, 0, none⟩), undef, undef, .slice A n cap, .func (.func 79) #[] #[.pointer (some ⟨w.heap.size + 1, 0, none⟩)], x.val, undef, undef, undef, undef, undef, undef, undef, undef, undef, undef, undef, undef] ∧
      W.heap[b3]? = some (.cells x.cells.toArray 46 (0, 0)) ∧ Fact (RecsI w.heap.size w zs pre W ∧ x.Owns W ∧ PX.Next zs pre x))
    ?hA ?assign ?body ?done (fun _ _ _ _ _ _ h => h.elim)
  case hI =>
    intro s A B h hk
    exact RecsI.keep (by simp; omega) h hk
  case h0 => exact ⟨rfl, ((Below.refl _ w).alloc (Nat.le_refl _) _).alloc (by simp) _, by simp, ⟨.slice none 0 0, (Below.heap_alloc _ _ _ (by simp)).trans (World.alloc_heap_new w _), World.ownsRow_nil _ _ _ _⟩⟩
  case hA =>
    rintro pre x a' A B ⟨b3, h1, h2, h3, h4, h5⟩ hk
    exact ⟨b3, h1, hk.same _ _ h2 ⟨fun h => h.elim, .inr rfl⟩, RecsI.keep (by simp; omega) h3 hk, ZI_owns hk h4, h5⟩
  case assign =>
    rintro l pre x W hI _ ⟨hg1, hg2⟩
    unfold encP PX.val
    gi_wp2
    exact ⟨(Kept.refl _ _).alloc _, W.heap.size, rfl, World.alloc_heap_new _ _, RecsI.keep (c := w.heap.size) (Nat.le_refl _) hI (Kept.of_below ((Ext.refl W).alloc _)), owns_ext hg1 ((Ext.refl W).alloc _), hg2⟩
  case body =>
    obtain ⟨i0, hi, hz0, hz1, hz2⟩ := info_parts info34
    rintro l pre x a' W ⟨b3, rfl, hb3, hI, h7, h8⟩
    obtain ⟨h1, h2, h3, ⟨v, h4, h5⟩⟩ := hI
    obtain ⟨k0, k1, k2⟩ := row3 hb3
    have hlen : pre.length < 5000 := by have := HL.out; have := h8.1; omega
    obtain ⟨hrow, hcap, hmax, -⟩ := row_of_own h7 (fun y hy => HB.out y (pcs_byte _ _ _ _ h8.mem y hy))
    have HC := Lib.hid (rec_any x.d.at_ x.g 0 x.cap x.d.bytes x.d.cut W hrow hcap hmax)
    obtain ⟨k, hk⟩ : ∃ k, k = (recsOf (pre.map PX.d)).length := ⟨_, rfl⟩
    obtain ⟨cs, hcs⟩ : ∃ cs, cs = (recsOf (pre.map PX.d)).flatMap RecD.cells := ⟨_, rfl⟩
    have hk5 : k < 5000 := by have := recsOf_len (pre.map PX.d); simp at this; omega
    rw [← hk, ← hcs] at h5
    have X := Lib.hid (And.intro h1 (And.intro h2 (And.intro h3 (And.intro h4 (And.intro h5 (And.intro hk (And.intro hcs h8)))))))
    have lt0 : w.heap.size < W.heap.size := by omega
    have hre : recOf? x.d = if (recOf x.d.cut x.d.bytes).2 = 0 then some (recOf x.d.cut x.d.bytes).1 else none := rfl
    have HRe := Lib.hid hre
    clear h1 h2 h3 h4 h5 h7 h8 hb3 hrow hcap hmax hk hcs hre
    generalize hrr : recOf x.d.cut x.d.bytes = rr at *
    clear hrr
    obtain ⟨r, er⟩ := rr
    obtain ⟨kd, ts, src, seq, ek, px, py, rs, rt⟩ := r
    simp only [RecD.val] at HC HRe
    unfold PX.val
    by_cases he : er = 0
    · subst he
      gi_wp2_with (first | (refine ⟨trivial, rfl, (CallsIn.inRound l (callsIn_wide.2 HC.out)).mono ?_⟩; rintro e w2 ⟨rfl, hE⟩; have c0 := cell_of_one (hE.heap X.out.2.2.2.1); have f0 := free_of_one (hE.heap X.out.2.2.2.1); have lt2 : w.heap.size < w2.heap.size := Nat.lt_of_lt_of_le lt0 (Below.size hE); have HE := Lib.hid hE; clear hE) | (gi_at_builtin; refine wpListIn_append_own _ rfl (.tmp 16) (.tmp 18) 49 (by rfl) (w.heap.size + 2) 34 i0 zrec 8 72 und49 hi hz0 hz1 hz2 rfl (by omega) v k cs (by rfl) (owns_ext X.out.2.2.2.2.1 ((HE.out.alloc _).alloc _)) ⟨w2.heap.size + 1, 0, none⟩ 1 1 (RecD.cells ⟨kd, ts, src, seq, ek, px, py, rs, rt⟩) (by rfl) (by rfl) (by have := news_new (w2.alloc (.cells #[.int .u8 kd, .int .i64 ts, .int .i64 src, .int .i64 seq, .int .i64 ek, .complex .f64 (fb px) (fb py), .int .i64 rs, .int .i64 rt] 34)) 34 (RecD.cells ⟨kd, ts, src, seq, ek, px, py, rs, rt⟩); simpa [RecD.cells] using this) (RecD.oneCells _) (by unfold maxLen; omega) (by omega) (by have h3 := X.out.2.2.1; have := Below.size HE.out; simp; omega) ?_; intro v' w3 hown' hg hnil; obtain ⟨g', cap', rfl, _, _⟩ := hown'.form (by omega); obtain ⟨cc, ff, Z⟩ := recs_step (c := w.heap.size + 1 + 1) X.out.2.1 X.out.2.2.1 X.out.2.2.2.1 X.out.2.2.2.2.1 X.out.2.2.2.2.2.1 X.out.2.2.2.2.2.2.1 X.out.2.2.2.2.2.2.2 (by rw [HRe.out]; simp) HK.out ((HE.out.alloc _).alloc _) hown' hg; clear hown' hg hnil))
      show Kept (ZB _ _) _ _ ∧ _
      simp only [World.size_alloc]
      exact Z
    · have hne : (er == 0) = false := by simpa using he
      gi_wp2_with (refine ⟨trivial, rfl, (CallsIn.inRound l (callsIn_wide.2 HC.out)).mono ?_⟩; rintro e w2 ⟨rfl, hE⟩; have HE := Lib.hid hE; clear hE)
      obtain ⟨h1, h2, h3, h4, h5, hk, hcs, h8⟩ := X.out
      rw [hk, hcs] at h5
      have E2 := HE.out.alloc (.cells #[.int .u8 kd, .int .i64 ts, .int .i64 src, .int .i64 seq, .int .i64 ek, .complex .f64 (fb px) (fb py), .int .i64 rs, .int .i64 rt] 34)
      exact ⟨Kept.of_below E2, recs_skip ⟨h1, h2, h3, v, h4, h5⟩ h8 (by rw [HRe.out, if_neg he]) E2⟩
  case done =>
    rintro D xs W hD hS ⟨h1, h2, h3, ⟨v, h4, h5⟩⟩ hK
    rw [hS] at h5
    change W.ownsRow (w.heap.size + 2) 34 8 v (recsD zs).length ((recsD zs).flatMap RecD.cells) at h5
    have c0 := cell_of_one h4
    have f0 := free_of_one h4
    have hD2 : w.heap.size + 2 ≤ D := by simpa using hD
    obtain ⟨k, hk⟩ : ∃ k, k = (recsD zs).length := ⟨_, rfl⟩
    rw [← hk] at h5
    have HKk := Lib.hid hk
    have X := Lib.hid (And.intro h2 (And.intro h5 hD2))
    have XK := Lib.hid hK
    have hvf : v = .slice none 0 0 ∨ ∃ g c, v = .slice (some ⟨g, 0, none⟩) k c := by
      rcases h5.2 with ⟨h, _⟩ | ⟨g, c, _, h, _⟩
      · exact .inl h
      · exact .inr ⟨g, c, h⟩
    clear h1 h2 h3 h4 h5 hK hD hD2 hS hk
    rcases hvf with rfl | ⟨g, cp, rfl⟩
    all_goals
      go_wp2
      obtain ⟨h2, h5, hD2⟩ := X.out
    · have hK2 := set_defer XK.out c0 (.slice none 0 0)
      refine postM_ret1 (D := D) hK2 (v := .slice none 0 0) ?_ ⟨_, rfl, ?_, ?_⟩
      · have hc := put_cell hK2 (World.cell?_setCell_same' _ _ (.slice none 0 0) (by rw [c0]; rfl)) (.deferred none)
        simp [results, Try.results23, go_sem, hc]
      · rw [← HKk.out]; exact World.ownsRow.mono (ownsRow_putObj (ownsRow_setCell_below h5 (by simp) _) _ hK2 rfl) (by omega)
      · exact below_putObj (h2.setCell (p := ⟨w.heap.size, 0, none⟩) (by simp) _) (by omega) _
    · have hK2 := set_defer XK.out c0 (.slice (some ⟨g, 0, none⟩) k cp)
      refine postM_ret1 (D := D) hK2 (v := .slice (some ⟨g, 0, none⟩) k cp) ?_ ⟨_, rfl, ?_, ?_⟩
      · have hc := put_cell hK2 (World.cell?_setCell_same' _ _ (.slice (some ⟨g, 0, none⟩) k cp) (by rw [c0]; rfl)) (.deferred none)
        simp [results, Try.results23, go_sem, hc]
      · rw [← HKk.out]; exact World.ownsRow.mono (ownsRow_putObj (ownsRow_setCell_below h5 (by simp) _) _ hK2 rfl) (by omega)
      · exact below_putObj (h2.setCell (p := ⟨w.heap.size, 0, none⟩) (by simp) _) (by omega) _

theorem recs_any (b off n cap : Nat) (zs : List Int) (w : World) (hn : zs.length = n) (hm : n ≤ 5000) (hcap : n ≤ cap) (hr : Row w b off zs) (hb : b < w.heap.size) :
    Calls Try.prog 23 #[.slice (some ⟨b, off, none⟩) n cap] w fun e w' => ∃ v, e = .returned v ∧ w'.ownsRow w.heap.size 34 8 v (recsD zs).length ((recsD zs).flatMap RecD.cells) ∧ Ext w w' := by
  have hr2 : Row ((w.alloc (.cells #[.slice none 0 0] 49)).alloc (.cells #[.slice (some ⟨b, off, none⟩) n cap] 30)) b off zs := (((Ext.refl w).alloc _).alloc _).row hr
  exact recs_core _ n cap zs w (by omega) hr.byte (fun i => i = w.heap.size + 1 ∨ i = b) (by rintro i (rfl | rfl) <;> omega) (pieces_seq (w.heap.size + 1) b off n cap zs _ hn hm hcap (by simp [go_sem]) hr2)

theorem recs_empty (A : Option Addr) (cap : Nat) (w : World) :
    Calls Try.prog 23 #[.slice A 0 cap] w fun e w' => ∃ v, e = .returned v ∧ w'.ownsRow w.heap.size 34 8 v (recsD []).length ((recsD []).flatMap RecD.cells) ∧ Ext w w' :=
  recs_core _ 0 cap [] w (by simp) (by simp) (fun i => i = w.heap.size + 1) (by rintro i rfl; omega) (pieces_seq0 (w.heap.size + 1) A cap _ (by simp [go_sem]))

end Go.Proofs.Ytcbneobdelbhlaa
