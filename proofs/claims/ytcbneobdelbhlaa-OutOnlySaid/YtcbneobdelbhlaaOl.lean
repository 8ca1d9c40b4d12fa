/-
  Package out: Put.
  Package out: first's own function next.
  Package out: first, of bytes that are none.
-/
import Derived.Test.YtcbneobdelbhlaaOi
namespace Go.Proofs.Ytcbneobdelbhlaa
open Go.RowKit Go.Shelf
attribute [local go_sem] Oper.semAt_some

def OX.zero : OX := ⟨⟨0, [], [], 0, 0⟩, 0, 0, 0, 0⟩

/-- A row of outs in memory. -/
structure OutRow (W : World) (b : Nat) (xs : List OX) : Prop where
  at_ : ∀ x ∈ xs, x.At W
  cell : ∀ i, i < xs.length → ∀ j u, (xs.getD i OX.zero).cells[j]? = some u → W.cell? ⟨b, i * 5 + j, none⟩ = some u

theorem OutRow.ext {W W' : World} {b : Nat} {xs : List OX} (h : OutRow W b xs) (hE : Ext W W') : OutRow W' b xs :=
  ⟨fun x hx => (h.at_ x hx).ext hE, fun i hi j u hj => hE.cell (h.cell i hi j u hj)⟩

def bytesAll (xs : List OX) : List Int := xs.flatMap fun x => x.d.bytes

/-- What Put has made so far. -/
structure PutS (w : World) (zs : List Int) (Ds : List Nat) (v : Value) (W : World) : Prop where
  below : Ext w W
  size : w.heap.size + 1 ≤ W.heap.size
  box : W.heap[w.heap.size]? = some (.cells #[v] 30 (0, 0))
  own : W.ownsRow (w.heap.size + 1) 5 1 v zs.length (zs.map (Value.int .u8))
  nodup : Ds.Nodup
  defs : ∀ D ∈ Ds, w.heap.size + 1 ≤ D ∧ W.heap[D]? = some (.deferred (some []))

theorem OutD.bytes_len {o : OutD} (h : o.Fit) : o.bytes.length ≤ 86 := by
  unfold OutD.bytes OutD.parts
  split
  · simp [partsS, bytesOf_len]
  · have h1 : o.row.length ≤ 4 ∧ o.evs.length ≤ 4 := by
      rcases h with ⟨_, r, e, _, _, _, _⟩ | ⟨_, r, e, _, _⟩ | ⟨_, _, _, _, r2, e, _⟩
      · simp [r, e]
      · simp [r, e]
      · omega
    have h2 : ∀ l : List Int, (l.map fun z => bytesOf z 1).flatten.length = l.length := by
      intro l
      induction l with
      | nil => rfl
      | cons a l ih => simp [bytesOf_len] at ih ⊢; omega
    have h3 : ∀ l : List EvD, (l.map EvD.bytes).flatten.length = 20 * l.length := by
      intro l
      induction l with
      | nil => rfl
      | cons a l ih => simp [EvD.bytes_len] at ih ⊢; omega
    have a := h2 o.row
    have b := h3 o.evs
    simp only [partsM, List.flatten_cons, List.flatten_append, List.length_append, List.length_cons, List.length_nil, bytesOf_len, a, b]
    omega

theorem bytesAll_len {xs : List OX} (h : ∀ x ∈ xs, x.d.Fit) : (bytesAll xs).length ≤ 86 * xs.length := by
  induction xs with
  | nil => simp [bytesAll]
  | cons a l ih =>
    have h1 := OutD.bytes_len (h a (by simp))
    have h2 := ih (fun x hx => h x (List.mem_cons_of_mem _ hx))
    simp [bytesAll] at h2 ⊢
    omega

theorem PutS.keep {w A B : World} {zs : List Int} {Ds : List Nat} {v : Value} {c : Nat} (h : PutS w zs Ds v A) (hc : w.heap.size < c) (hD : ∀ D ∈ Ds, D < c) (hk : Kept (ZI c fun _ => False) A B) : PutS w zs Ds v B :=
  ⟨ZI_below hk h.below (by omega) (by have := h.size; omega) (fun _ _ h => h), Nat.le_trans h.size hk.size, hk.same _ _ h.box ⟨fun h => h, .inr rfl⟩, ZI_row hk h.own (fun _ _ h => h), h.nodup,
    fun D hd => ⟨(h.defs D hd).1, hk.same _ _ (h.defs D hd).2 ⟨fun h => h, .inl (hD D hd)⟩⟩⟩

/-- What the iterator reads is typed, and is not the box. -/
def Typed (n0 : Nat) (K : Nat → Prop) (W : World) : Prop := ∀ k, K k → k ≠ n0 ∧ ∃ cs t, t ≠ 5 ∧ W.heap[k]? = some (.cells cs t (0, 0))

theorem Typed.keep {n0 c : Nat} {K : Nat → Prop} {A B : World} (h : Typed n0 K A) (hk : Kept (ZI c fun _ => False) A B) : Typed n0 K B := fun k hK => by
  obtain ⟨h1, cs, t, h2, h3⟩ := h k hK
  exact ⟨h1, cs, t, h2, hk.same _ _ h3 ⟨fun h => h, .inr rfl⟩⟩

theorem own_ne {W : World} {base k : Nat} {v : Value} {n : Nat} {xs : List Value} {o : Obj} (h : W.ownsRow base 5 1 v n xs) (hk : W.heap[k]? = some o) (ho : ∀ cs, o ≠ .cells cs 5 (0, 0)) : v.ownBlock ≠ some k := by
  intro e
  rcases h.2 with ⟨rfl, _⟩ | ⟨g, cap, cur, rfl, _, hh, _⟩
  · simp [Value.ownBlock] at e
  · have : g = k := by simpa [Value.ownBlock] using e
    subst this
    rw [hh] at hk
    injection hk with hk
    exact ho _ hk.symm

theorem oput_step {w W w2 : World} {zs bs : List Int} {Ds : List Nat} {v v' : Value} {K : Nat → Prop} {c m : Nat} (h : PutS w zs Ds v W) (hr : Typed w.heap.size K W) (hm : bs.length = m)
    (hown' : w2.ownsRow (w.heap.size + 1) 5 1 v' (zs.length + m) (zs.map (Value.int .u8) ++ bs.map (Value.int .u8))) (hg : W.grownBy w2 v.ownBlock) :
    w2.cell? ⟨w.heap.size, 0, none⟩ = some v ∧ w2.frozen? ⟨w.heap.size, 0, none⟩ = false ∧ Kept (ZB c K) W (w2.setCell ⟨w.heap.size, 0, none⟩ v') ∧
    PutS w (zs ++ bs) Ds v' (w2.setCell ⟨w.heap.size, 0, none⟩ v') ∧ Typed w.heap.size K (w2.setCell ⟨w.heap.size, 0, none⟩ v') := by
  subst hm
  obtain ⟨cc, ff, KK, B, hh, ho, hs, oth⟩ := box_grow (c := c) (Kz := K) h.below h.box h.own hown' hg h.size hr
  refine ⟨cc, ff, KK, ⟨B, hs, hh, ?_, h.nodup, fun D hD => ?_⟩, fun k hK => ?_⟩
  · rw [List.length_append, List.map_append]; exact ho
  · obtain ⟨h1, h2⟩ := h.defs D hD
    exact ⟨h1, (oth D (heap_lt h2) (by omega) (own_ne h.own h2 (by intro cs e; cases e))).trans h2⟩
  · obtain ⟨h1, cs, t, ht, h2⟩ := hr k hK
    exact ⟨h1, cs, t, ht, (oth k (heap_lt h2) h1 (own_ne h.own h2 (by intro cs' e; injection e with _ e; exact ht e))).trans h2⟩

/-- What a range over an out's parts has put. -/
structure PutR (w : World) (zs : List Int) (Ds : List Nat) (c : Nat) (K : Nat → Prop) (pre : List BX) (W : World) : Prop where
  put : ∃ v, PutS w (zs ++ (pre.map BX.bs).flatten) Ds v W
  defs : ∀ D ∈ Ds, D < c
  reads : Typed w.heap.size K W

theorem PutR.keep {w A B : World} {zs : List Int} {Ds : List Nat} {K : Nat → Prop} {c : Nat} {pre : List BX} (h : PutR w zs Ds c K pre A) (hc : w.heap.size < c) (hk : Kept (ZI c fun _ => False) A B) : PutR w zs Ds c K pre B :=
  ⟨let ⟨v, hv⟩ := h.put; ⟨v, hv.keep hc h.defs hk⟩, h.defs, h.reads.keep hk⟩

theorem own_mono {W : World} {base base' n size : Nat} {e : TypeId} {v : Value} {xs : List Value} (h : W.ownsRow base e size v n xs) (hb : base' ≤ base) : W.ownsRow base' e size v n xs :=
  ⟨h.1, h.2.imp id fun ⟨g, cap, cur, h1, h2, h3⟩ => ⟨g, cap, cur, h1, Nat.le_trans hb h2, h3⟩⟩

theorem Row.of_kept {c b off : Nat} {A B : World} {zs : List Int} (h : Row A b off zs) (hk : Kept (ZI c fun _ => False) A B) : Row B b off zs := ⟨fun i hi => ZI_cell hk (h.cell i hi) (fun h => h), h.byte⟩

set_option maxHeartbeats 4000000 in
set_option maxRecDepth 100000 in
theorem put_core (b cap : Nat) (xs : List OX) (hm : xs.length ≤ 1000) (w : World) (h : OutRow w b xs) :
    Calls Try.prog 31 #[.slice (some ⟨b, 0, none⟩) xs.length cap] w fun e w' =>
      ∃ v er, e = .returned (.tuple #[v, .int .i64 er]) ∧ ((xs.all fun x => x.d.right) = true → er = 0 ∧ w'.ownsRow w.heap.size 5 1 v (bytesAll xs).length ((bytesAll xs).map (Value.int .u8))) ∧ ((xs.all fun x => x.d.right) = false → er = 2 ∧ v = .slice none 0 0) ∧ Ext w w' := by
  have HX := Lib.hid h
  clear h
  generalize hn : xs.length = n at *
  have HN := Lib.hid hn
  clear hn
  refine calls_of_wp_m Try.func31 rfl ?_
  simp only [Try.ntmps31, List.size_toArray, List.length_cons, List.length_nil, Nat.reduceAdd, Nat.reduceSub, Array.replicate_succ, Array.replicate_zero, List.push_toArray, List.append_toArray, List.nil_append, List.cons_append]
  go_wp2
  refine wp_loop (fun a W => ∃ (i : Nat) (Ds : List Nat) (v u6 u11 u12 u13 u14 u15 u16 u17 u18 u23 : Value),
      a = { tmps := #[.slice (some ⟨b, 0, none⟩) n cap, undef, .slice none 0 0, .int .i64 0, .pointer (some ⟨w.heap.size, 0, none⟩), undef, u6, undef, .slice (some ⟨b, 0, none⟩) n cap, .int .i64 n, .int .i64 i, u11, u12, u13, u14, u15, u16, u17, u18, undef, undef, undef, undef, u23, undef], defers := Ds.map fun D => { target := .collected D, args := #[] } } ∧
      i ≤ n ∧ ((xs.take i).all fun x => x.d.right) = true ∧ PutS w (bytesAll (xs.take i)) Ds v W) (fun a _ => n - (intOf (a.tmps[10]?.getD undef)).toNat) ?h0 ?round
  case h0 =>
    exact ⟨0, [], .slice none 0 0, _, _, _, _, _, _, _, _, _, _, rfl, Nat.zero_le _, rfl, (Ext.refl w).alloc _, by simp, World.alloc_heap_new w _, World.ownsRow_nil _ _ _ _, by simp, by simp⟩
  case round =>
    rintro a W ⟨i, Ds, v, u6, u11, u12, u13, u14, u15, u16, u17, u18, u23, rfl, hi, hall, hS⟩
    by_cases hlt : i < n
    · have hix : i < xs.length := by rw [HN.out]; exact hlt
      have hcs := (HX.out.ext hS.below).cell i hix
      have hat := (HX.out.ext hS.below).at_ (xs.getD i OX.zero) (by rw [List.getD_eq_getElem?_getD, List.getElem?_eq_getElem hix]; exact List.getElem_mem hix)
      have hmem : xs.getD i OX.zero ∈ xs := by rw [List.getD_eq_getElem?_getD, List.getElem?_eq_getElem hix]; exact List.getElem_mem hix
      have htk : xs.take (i + 1) = xs.take i ++ [xs.getD i OX.zero] := by
        rw [List.take_succ_eq_append_getElem hix, List.getD_eq_getElem?_getD, List.getElem?_eq_getElem hix]; rfl
      generalize xs.getD i OX.zero = x at *
      have HM := Lib.hid (And.intro hmem (And.intro htk hall))
      clear hmem htk hall
      have c0 : W.cell? ⟨b, i * 5, none⟩ = some (.int .u8 x.d.kd) := hcs 0 _ rfl
      have c1 : W.cell? ⟨b, i * 5 + 1, none⟩ = some x.rowV := hcs 1 _ rfl
      have c2 : W.cell? ⟨b, i * 5 + 2, none⟩ = some x.evsV := hcs 2 _ rfl
      have c3 : W.cell? ⟨b, i * 5 + 3, none⟩ = some (.int .i64 x.d.at_) := hcs 3 _ rfl
      have c4 : W.cell? ⟨b, i * 5 + 4, none⟩ = some (.int .u8 x.d.code) := hcs 4 _ rfl
      have H30 := Lib.hid (fun w' (hE : Ext W w') => oright_any x w' (hat.ext hE))
      have H67 := Lib.hid (fun w' => oparts_any x w')
      have HS := Lib.hid hS
      have HA := Lib.hid hat
      clear hcs hat hS
      obtain ⟨A, m, c, hA⟩ : ∃ A m c, x.rowV = .slice A m c := by unfold OX.rowV; split <;> exact ⟨_, _, _, rfl⟩
      obtain ⟨B, m', c', hB⟩ : ∃ A m c, x.evsV = .slice A m c := by unfold OX.evsV; split <;> exact ⟨_, _, _, rfl⟩
      rw [hA] at c1
      rw [hB] at c2
      simp only [OX.val, hA, hB] at H30 H67
      have p1 : (i : Int) < (n : Int) := by omega
      have p2 : (0 : Int) ≤ (i : Int) := by omega
      go_wp2_with fail
      refine (H30.out _ ((Ext.refl W).alloc _)).mono ?_
      rintro e W1 ⟨rfl, hE1⟩
      have hbx := hE1.heap (World.alloc_heap_new W _)
      have T1 : Hid (Ext W W1) := Lib.hid (Ext.of1 hE1)
      obtain ⟨d0, d1, d2, d3, d4⟩ := row5 hbx
      clear c0 c1 c2 c3 c4 hE1 hbx
      cases hrt : x.d.right
      · have HRT := Lib.hid hrt
        clear hrt
        go_wp2
        have hno : (xs.all fun x => x.d.right) = false := by
          rw [List.all_eq_false]
          exact ⟨x, HM.out.1, by rw [HRT.out]; simp⟩
        refine leaves_many (v := .tuple #[.slice none 0 0, .int .i64 2]) (T := fun W' => Ext w W') (fun W => by simp [results, Try.results31, go_sem]) (fun W' hT => ⟨_, _, rfl, fun h => ?_, fun _ => ⟨rfl, rfl⟩, hT⟩) Ds W1 HS.out.nodup
          (fun D hD => T1.out.heap (HS.out.defs D hD).2) (fun D A hD _ hA => below_putObj hA (by have := (HS.out.defs D hD).1; omega) _) (HS.out.below.trans T1.out)
        rw [hno] at h
        cases h
      · have HRT := Lib.hid hrt
        clear hrt
        go_wp2_with fail
        refine (H67.out _).mono ?_
        rintro e W2 ⟨rfl, rfl⟩
        go_wp2_with fail
        have HT : Hid (Typed w.heap.size (x.Reads W1.heap.size) (W1.alloc (.cells x.cells.toArray 64))) := Lib.hid fun k hk => by
          have hsz := HS.out.size
          have hE := Below.size T1.out
          rcases hk with rfl | ⟨hr, rfl | rfl⟩
          · exact ⟨by omega, _, 64, by decide, World.alloc_heap_new _ _⟩
          · obtain ⟨⟨cs, hc⟩, _⟩ := HA.out.blk hr
            refine ⟨?_, cs, 3, by decide, Ext.heap (T1.out.alloc _) hc⟩
            intro e
            rw [e, HS.out.box] at hc
            injection hc with hc
            injection hc with _ hc
            cases hc
          · obtain ⟨_, ⟨cs, hc⟩⟩ := HA.out.blk hr
            refine ⟨?_, cs, 32, by decide, Ext.heap (T1.out.alloc _) hc⟩
            intro e
            rw [e, HS.out.box] at hc
            injection hc with hc
            injection hc with _ hc
            cases hc
        have HSeq := Lib.hid (parts_any x W1.heap.size _ (HA.out.ext (T1.out.alloc _)) HRT.out (World.alloc_heap_new W1 _))
        have HKz : Hid (∀ k, x.Reads W1.heap.size k → k < (W1.alloc (.cells x.cells.toArray 64)).heap.size) := Lib.hid fun k hk => by
          obtain ⟨_, cs, t, _, h⟩ := HT.out k hk
          exact heap_lt h
        have HLt : Hid (w.heap.size < (W1.alloc (.cells x.cells.toArray 64)).heap.size) := Lib.hid (by
          have hsz := HS.out.size
          have hE := Below.size T1.out
          rw [World.size_alloc]; omega)
        have HS1 : Hid (PutS w (bytesAll (xs.take i)) Ds v (W1.alloc (.cells x.cells.toArray 64))) := Lib.hid ⟨HS.out.below.trans (Below.mono (T1.out.alloc _) (by have := HS.out.size; omega)), by have := Below.size (T1.out.alloc (.cells x.cells.toArray 64)); have := HS.out.size; omega, Ext.heap (T1.out.alloc _) HS.out.box, owns_ext HS.out.own (T1.out.alloc _), HS.out.nodup, fun D hD => ⟨(HS.out.defs D hD).1, Ext.heap (T1.out.alloc _) (HS.out.defs D hD).2⟩⟩
        have HDs : Hid (∀ D ∈ Ds, D < (W1.alloc (.cells x.cells.toArray 64)).heap.size) := Lib.hid fun D hD => heap_lt (HS1.out.defs D hD).2
        have HB : Hid ((bytesAll (xs.take i)).length ≤ 86000 ∧ x.d.parts.flatten.length ≤ 86) := by
          refine Lib.hid ⟨?_, OutD.bytes_len HA.out.fit⟩
          have := bytesAll_len (xs := xs.take i) (fun y hy => (HX.out.at_ y (List.mem_of_mem_take hy)).fit)
          have hl : (xs.take i).length ≤ 1000 := by rw [List.length_take]; omega
          omega
        refine wp_range (gf := 89) rfl (enters_of Try.func89 (by kernel_rfl) rfl) HSeq.out HKz.out (fun _ h => h.elim) (fun _ => rfl)
          (PutR w (bytesAll (xs.take i)) Ds (W1.alloc (.cells x.cells.toArray 64)).heap.size (x.Reads W1.heap.size)) (fun _ _ _ => False) ?hI (fun _ _ _ _ h _ => h) ?hz
          (fun pre y a' W' => (∃ z6 z8 z9 z10 z11 z12 z13 z14 z15 z16 z17 z18 z19 z20 z21 z22 z23 z24 : Value, Fr a' #[.slice (some ⟨b, 0, none⟩) n cap, undef, .slice none 0 0, .int .i64 0, .pointer (some ⟨w.heap.size, 0, none⟩), undef, z6, .slice (some ⟨y.g, 0, none⟩) y.bs.length y.cap, z8, z9, z10, z11, z12, z13, z14, z15, z16, z17, z18, z19, z20, z21, z22, z23, z24]) ∧
            Fact (PutR w (bytesAll (xs.take i)) Ds (W1.alloc (.cells x.cells.toArray 64)).heap.size (x.Reads W1.heap.size) pre W' ∧ PartOk x.d.parts pre y W'))
          ?hA ?assign ?body ?done (fun _ _ _ _ _ _ h => h.elim)
        case hI => exact fun s A B h hk => h.keep HLt.out hk
        case hz => exact ⟨⟨v, by simpa using HS1.out⟩, HDs.out, HT.out⟩
        case hA =>
          rintro pre y a' A B ⟨h1, h2, h3, h4⟩ hk
          exact ⟨h1, h2.keep HLt.out hk, h3.of_kept hk, h4⟩
        case assign =>
          rintro l pre y W' hI _ hG
          unfold BX.enc
          gi_wp2
          exact ⟨Kept.refl _ _, ⟨_, _, _, _, _, _, _, _, _, _, _, _, _, _, _, _, _, _, rfl⟩, hI, hG⟩
        case body =>
          clear d0 d1 d2 d3 d4
          obtain ⟨i0, hi, hz0, hz1, hz2⟩ := info_parts info5
          rintro l pre y a' W' ⟨⟨z6, z8, z9, z10, z11, z12, z13, z14, z15, z16, z17, z18, z19, z20, z21, z22, z23, z24, rfl⟩, ⟨⟨v1, hP⟩, hD, hR⟩, hrow, hy1, hy2, rest, hX⟩
          have hbd : (bytesAll (xs.take i) ++ (pre.map BX.bs).flatten).length ≤ 86086 := by
            have := HB.out
            rw [← hX, List.flatten_append, List.length_append] at this
            rw [List.length_append]
            omega
          have c0 := cell_of_one hP.box
          have f0 := free_of_one hP.box
          obtain ⟨bs, g, cp⟩ := y
          have HZ : Hid (bytesAll (xs.take i) ++ ((pre ++ [(⟨bs, g, cp⟩ : BX)]).map BX.bs).flatten = (bytesAll (xs.take i) ++ (pre.map BX.bs).flatten) ++ bs) := Lib.hid (by simp)
          generalize bytesAll (xs.take i) ++ (pre.map BX.bs).flatten = zs at *
          dsimp only at hrow hy1 hy2 hX ⊢
          generalize hbl : bs.length = bl at *
          have P := Lib.hid (And.intro hP (And.intro hD (And.intro hR (And.intro hrow (And.intro hX hbl)))))
          clear hP hD hR hrow hX hbl
          gi_wp2_with (gi_at_builtin; refine wpListIn_append_own _ rfl (.tmp 20) (.tmp 21) 30 (by rfl) (w.heap.size + 1) 5 i0 (.int .u8 0) 1 1 und30 hi hz0 hz1 hz2 rfl (by omega) v1 _ _ (by rfl) P.out.1.own ⟨g, 0, none⟩ bl cp (bs.map (Value.int .u8)) (by rfl) (by simp [P.out.2.2.2.2.2]) (row_news (b := g) P.out.2.2.2.1 P.out.2.2.2.2.2) (by intro u hu; simp at hu; obtain ⟨_, _, rfl⟩ := hu; rfl) (by unfold maxLen; omega) (by omega) P.out.1.size ?_; intro v' w2 hown' hg hnil; obtain ⟨g', cap', rfl, _, _⟩ := hown'.form (by omega); obtain ⟨cc, ff, Z⟩ := oput_step (c := (W1.alloc (.cells x.cells.toArray 64)).heap.size) P.out.1 P.out.2.2.1 P.out.2.2.2.2.2 hown' hg; clear hown' hg hnil)
          exact ⟨Z.1, ⟨_, by rw [HZ.out]; exact Z.2.1⟩, P.out.2.1, Z.2.2⟩
        case done =>
          rintro D ys W' hD hS ⟨⟨v1, hP⟩, hDs, hR⟩ hK
          have ht : bytesAll (xs.take (i + 1)) = bytesAll (xs.take i) ++ (ys.map BX.bs).flatten := by
            rw [HM.out.2.1, hS]
            simp [bytesAll, OutD.bytes]
          have hall : ((xs.take (i + 1)).all fun x => x.d.right) = true := by
            rw [HM.out.2.1, List.all_append, HM.out.2.2]
            simp [HRT.out]
          have HP := Lib.hid hP
          have HQ := Lib.hid (And.intro hD (And.intro hDs (And.intro hK (And.intro ht hall))))
          clear hP hD hDs hR hK ht hall hS
          go_wp2
          refine ⟨⟨i + 1, D :: Ds, v1, _, _, _, _, _, _, _, _, _, _, rfl, by omega, HQ.out.2.2.2.2, ?_⟩, ?_⟩
          · rw [HQ.out.2.2.2.1]
            refine ⟨HP.out.below, HP.out.size, HP.out.box, HP.out.own, List.nodup_cons.2 ⟨fun h => ?_, HP.out.nodup⟩, fun E hE => ?_⟩
            · have := HQ.out.2.1 D h; have := HQ.out.1; omega
            · rcases List.mem_cons.1 hE with rfl | hE
              · exact ⟨by have := HLt.out; have := HQ.out.1; omega, HQ.out.2.2.1⟩
              · exact HP.out.defs E hE
          · simp [intOf]; omega
    · have e : i = n := by omega
      have ht : xs.take i = xs := List.take_of_length_le (by rw [HN.out]; omega)
      rw [ht] at hall hS
      have c0 := cell_of_one hS.box
      have HS := Lib.hid hS
      have HA := Lib.hid hall
      subst e
      clear hS hall ht
      go_wp2
      refine leaves_many (v := .tuple #[v, .int .i64 0]) (T := fun W' => Ext w W' ∧ W'.ownsRow (w.heap.size + 1) 5 1 v (bytesAll xs).length ((bytesAll xs).map (Value.int .u8))) (fun W => by simp [results, Try.results31, go_sem]) (fun W' hT => ⟨v, 0, rfl, fun _ => ⟨rfl, own_mono hT.2 (by omega)⟩, fun h => ?_, hT.1⟩) Ds _ HS.out.nodup
        (fun D hD => (HS.out.defs D hD).2) (fun D A hD hA hT => ⟨below_putObj hT.1 (by have := (HS.out.defs D hD).1; omega) _, ownsRow_putObj hT.2 _ hA rfl⟩) ⟨HS.out.below, HS.out.own⟩
      rw [HA.out] at h
      cases h

end Go.Proofs.Ytcbneobdelbhlaa

namespace Go.Proofs.Ytcbneobdelbhlaa
open Go.RowKit Go.Shelf

set_option maxHeartbeats 1000000 in
/-- Ahead of the end: the bytes lie. -/
theorem next_any (x y b off at_ k n cap : Nat) (a m c : Int) (o' r' : Nat) (ha : a = at_) (hm : m = k) (hc : c = at_ + k) (ho : off + at_ = o') (hr : cap - at_ = r') (w : World) (hx : w.cell? ⟨x, 0, none⟩ = some (.int .i64 a)) (fx : w.frozen? ⟨x, 0, none⟩ = false)
    (hy : w.cell? ⟨y, 0, none⟩ = some (.slice (some ⟨b, off, none⟩) n cap)) (hxy : x ≠ y) (hk : 1 ≤ k) (hat : at_ + k ≤ n) (hcap : n ≤ cap) (hmax : cap ≤ maxLen) :
    Calls Try.prog 84 #[.int .i64 m, .pointer (some ⟨x, 0, none⟩), .pointer (some ⟨y, 0, none⟩)] w fun e w' =>
      e = .returned (.slice (some ⟨b, o', none⟩) k r') ∧ w.setCell ⟨x, 0, none⟩ (.int .i64 c) = w' := by
  subst ha hm hc ho hr
  unfold maxLen at hmax
  have hyx : ¬ y = x := fun e => hxy e.symm
  have p1 : ((at_ : Int) + (k : Int) - (k : Int)) = (at_ : Int) := by omega
  have p2 : (at_ : Int) + (k : Int) ≤ (n : Int) := by omega
  have p3 : (n : Int) ≤ (cap : Int) := by omega
  have p4 : (0 : Int) ≤ (at_ : Int) := by omega
  have p5 : (1 : Int) ≤ (k : Int) := by omega
  go_enter Try.func84, Try.ntmps84
  go_wp2
  rw [show at_ + k - at_ = k by omega]
  go_ret
  exact ⟨rfl, rfl⟩

end Go.Proofs.Ytcbneobdelbhlaa

namespace Go.Proofs.Ytcbneobdelbhlaa
open Go.RowKit Go.Shelf

def zout : Value := .agg #[.int .u8 0, .slice none 0 0, .slice none 0 0, .int .i64 0, .int .u8 0]

theorem told_false {k : Int} (h : ¬ (k = 1 ∨ k = 2)) (w : World) : Calls Try.prog 62 #[.int .u8 k] w fun e w' => e = .returned (.bool false) ∧ w = w' := by
  have := otold_any k w
  rwa [decide_eq_false h] at this
theorem told_true {k : Int} (h : k = 1 ∨ k = 2) (w : World) : Calls Try.prog 62 #[.int .u8 k] w fun e w' => e = .returned (.bool true) ∧ w = w' := by
  have := otold_any k w
  rwa [decide_eq_true h] at this

theorem set5 {n b : Nat} {w w1 : World} (h : Below n w w1) (hb : n ≤ b) (v0 v1 v2 v3 v4 : Value) :
    Below n w (((((w1.setCell ⟨b, 0, none⟩ v0).setCell ⟨b, 1, none⟩ v1).setCell ⟨b, 2, none⟩ v2).setCell ⟨b, 3, none⟩ v3).setCell ⟨b, 4, none⟩ v4) :=
  ((((h.setCell (p := ⟨b, 0, none⟩) hb _).setCell (p := ⟨b, 1, none⟩) hb _).setCell (p := ⟨b, 2, none⟩) hb _).setCell (p := ⟨b, 3, none⟩) hb _).setCell (p := ⟨b, 4, none⟩) hb _

set_option maxHeartbeats 4000000 in
set_option maxRecDepth 100000 in
theorem first_kind (k : Int) (b off n cap : Nat) (w : World) (hk : ¬ (k = 1 ∨ k = 2)) (h3 : ¬ k = 3) (h1 : 1 ≤ n) (h0 : w.cell? ⟨b, off, none⟩ = some (.int .u8 k)) :
    Calls Try.prog 59 #[.slice (some ⟨b, off, none⟩) n cap] w fun e w' => e = .returned (.tuple #[zout, .slice none 0 0, .int .i64 11]) ∧ Ext w w' := by
  have HK := Lib.hid hk
  clear hk
  have p1 : (1 : Int) ≤ (n : Int) := by omega
  have p2 : (0 : Int) < (n : Int) := by omega
  have hb : b < w.heap.size := by obtain ⟨o, ho, _⟩ := cells_of_cell h0; exact heap_lt ho
  have b0 : ¬ b = w.heap.size := by omega
  have b1 : ¬ b = w.heap.size + 1 := by omega
  have b2 : ¬ b = w.heap.size + 1 + 1 := by omega
  have b3 : b < w.heap.size + 1 := by omega
  have b4 : b < w.heap.size + 1 + 1 := by omega
  refine calls_of_wp_m Try.func59 rfl ?_
  simp only [Try.ntmps59, List.size_toArray, List.length_cons, List.length_nil, Nat.reduceAdd, Nat.reduceSub, Array.replicate_succ, Array.replicate_zero, List.push_toArray, List.append_toArray, List.nil_append, List.cons_append]
  go_wp2
  refine wp_scope_goto 0 rfl ?_
  go_wp2_with (go_at_call 62; refine (told_false HK.out _).mono ?_; rintro e w1 ⟨rfl, rfl⟩)
  go_step3
  refine ⟨rfl, ?_⟩
  go_wp2
  rw [Exit.noGoto_ret]
  exact postM_ret0 (v := .tuple #[zout, .slice none 0 0, .int .i64 11]) (by simp [results, Try.results59, go_sem, zout]) ⟨rfl, (((Ext.refl w).alloc _).alloc _).alloc _⟩

set_option maxHeartbeats 4000000 in
set_option maxRecDepth 100000 in
theorem first_one (k : Int) (b off n cap : Nat) (w : World) (hk : k = 1 ∨ k = 2) (h1 : n = 1) (h0 : w.cell? ⟨b, off, none⟩ = some (.int .u8 k)) :
    Calls Try.prog 59 #[.slice (some ⟨b, off, none⟩) n cap] w fun e w' => e = .returned (.tuple #[zout, .slice none 0 0, .int .i64 50]) ∧ Ext w w' := by
  have HK := Lib.hid hk
  clear hk
  have h2 : (n : Int) < 2 := by omega
  have p1 : (1 : Int) ≤ (n : Int) := by omega
  have p2 : (0 : Int) < (n : Int) := by omega
  have hb : b < w.heap.size := by obtain ⟨o, ho, _⟩ := cells_of_cell h0; exact heap_lt ho
  have b0 : ¬ b = w.heap.size := by omega
  have b1 : ¬ b = w.heap.size + 1 := by omega
  have b2 : ¬ b = w.heap.size + 1 + 1 := by omega
  have b3 : b < w.heap.size + 1 := by omega
  have b4 : b < w.heap.size + 1 + 1 := by omega
  refine calls_of_wp_m Try.func59 rfl ?_
  simp only [Try.ntmps59, List.size_toArray, List.length_cons, List.length_nil, Nat.reduceAdd, Nat.reduceSub, Array.replicate_succ, Array.replicate_zero, List.push_toArray, List.append_toArray, List.nil_append, List.cons_append]
  go_wp2
  refine wp_scope_goto 0 rfl ?_
  go_wp2_with (go_at_call 62; refine (told_true HK.out _).mono ?_; rintro e w1 ⟨rfl, rfl⟩)
  go_step3
  refine ⟨rfl, ?_⟩
  go_wp2
  rw [Exit.noGoto_ret]
  exact postM_ret0 (v := .tuple #[zout, .slice none 0 0, .int .i64 50]) (by simp [results, Try.results59, go_sem, zout]) ⟨rfl, (((Ext.refl w).alloc _).alloc _).alloc _⟩

set_option maxHeartbeats 4000000 in
set_option maxRecDepth 100000 in
theorem first_low (k m : Int) (b off n cap : Nat) (w : World) (hk : k = 1 ∨ k = 2) (h1 : 2 ≤ n) (h0 : w.cell? ⟨b, off, none⟩ = some (.int .u8 k)) (hm0 : w.cell? ⟨b, off + 1, none⟩ = some (.int .u8 m)) (hm : m = 0) :
    Calls Try.prog 59 #[.slice (some ⟨b, off, none⟩) n cap] w fun e w' => e = .returned (.tuple #[zout, .slice none 0 0, .int .i64 11]) ∧ Ext w w' := by
  have HK := Lib.hid hk
  clear hk
  subst hm
  have h2 : ¬ (n : Int) < 2 := by omega
  have h3 : (2 : Int) ≤ (n : Int) := by omega
  have p1 : (1 : Int) ≤ (n : Int) := by omega
  have p2 : (0 : Int) < (n : Int) := by omega
  have hb : b < w.heap.size := by obtain ⟨o, ho, _⟩ := cells_of_cell h0; exact heap_lt ho
  have b0 : ¬ b = w.heap.size := by omega
  have b1 : ¬ b = w.heap.size + 1 := by omega
  have b2 : ¬ b = w.heap.size + 1 + 1 := by omega
  have b3 : b < w.heap.size + 1 := by omega
  have b4 : b < w.heap.size + 1 + 1 := by omega
  refine calls_of_wp_m Try.func59 rfl ?_
  simp only [Try.ntmps59, List.size_toArray, List.length_cons, List.length_nil, Nat.reduceAdd, Nat.reduceSub, Array.replicate_succ, Array.replicate_zero, List.push_toArray, List.append_toArray, List.nil_append, List.cons_append]
  go_wp2
  refine wp_scope_goto 0 rfl ?_
  go_wp2_with (go_at_call 62; refine (told_true HK.out _).mono ?_; rintro e w1 ⟨rfl, rfl⟩)
  go_step3
  refine ⟨rfl, ?_⟩
  go_wp2
  rw [Exit.noGoto_ret]
  exact postM_ret0 (v := .tuple #[zout, .slice none 0 0, .int .i64 11]) (by simp [results, Try.results59, go_sem, zout]) ⟨rfl, (((Ext.refl w).alloc _).alloc _).alloc _⟩

set_option maxHeartbeats 4000000 in
set_option maxRecDepth 100000 in
theorem first_high (k m : Int) (b off n cap : Nat) (w : World) (hk : k = 1 ∨ k = 2) (h1 : 2 ≤ n) (h0 : w.cell? ⟨b, off, none⟩ = some (.int .u8 k)) (hm0 : w.cell? ⟨b, off + 1, none⟩ = some (.int .u8 m)) (hm : 4 < m) :
    Calls Try.prog 59 #[.slice (some ⟨b, off, none⟩) n cap] w fun e w' => e = .returned (.tuple #[zout, .slice none 0 0, .int .i64 11]) ∧ Ext w w' := by
  have HK := Lib.hid hk
  clear hk
  have h2 : ¬ (n : Int) < 2 := by omega
  have h3 : (2 : Int) ≤ (n : Int) := by omega
  have h4 : ¬ m = 0 := by omega
  have p1 : (1 : Int) ≤ (n : Int) := by omega
  have p2 : (0 : Int) < (n : Int) := by omega
  have hb : b < w.heap.size := by obtain ⟨o, ho, _⟩ := cells_of_cell h0; exact heap_lt ho
  have b0 : ¬ b = w.heap.size := by omega
  have b1 : ¬ b = w.heap.size + 1 := by omega
  have b2 : ¬ b = w.heap.size + 1 + 1 := by omega
  have b3 : b < w.heap.size + 1 := by omega
  have b4 : b < w.heap.size + 1 + 1 := by omega
  refine calls_of_wp_m Try.func59 rfl ?_
  simp only [Try.ntmps59, List.size_toArray, List.length_cons, List.length_nil, Nat.reduceAdd, Nat.reduceSub, Array.replicate_succ, Array.replicate_zero, List.push_toArray, List.append_toArray, List.nil_append, List.cons_append]
  go_wp2
  refine wp_scope_goto 0 rfl ?_
  go_wp2_with (go_at_call 62; refine (told_true HK.out _).mono ?_; rintro e w1 ⟨rfl, rfl⟩)
  go_step3
  refine ⟨rfl, ?_⟩
  go_wp2
  rw [Exit.noGoto_ret]
  exact postM_ret0 (v := .tuple #[zout, .slice none 0 0, .int .i64 11]) (by simp [results, Try.results59, go_sem, zout]) ⟨rfl, (((Ext.refl w).alloc _).alloc _).alloc _⟩

set_option maxHeartbeats 4000000 in
set_option maxRecDepth 100000 in
theorem first_cut3 (b off n cap : Nat) (w : World) (h1 : 1 ≤ n) (h6 : n < 6) (h0 : w.cell? ⟨b, off, none⟩ = some (.int .u8 3)) :
    Calls Try.prog 59 #[.slice (some ⟨b, off, none⟩) n cap] w fun e w' => e = .returned (.tuple #[zout, .slice none 0 0, .int .i64 50]) ∧ Ext w w' := by
  have HK : Hid (¬ ((3 : Int) = 1 ∨ (3 : Int) = 2)) := Lib.hid (by decide)
  have h2 : (n : Int) < 6 := by omega
  have p1 : (1 : Int) ≤ (n : Int) := by omega
  have p2 : (0 : Int) < (n : Int) := by omega
  have hb : b < w.heap.size := by obtain ⟨o, ho, _⟩ := cells_of_cell h0; exact heap_lt ho
  have b0 : ¬ b = w.heap.size := by omega
  have b1 : ¬ b = w.heap.size + 1 := by omega
  have b2 : ¬ b = w.heap.size + 1 + 1 := by omega
  have b3 : b < w.heap.size + 1 := by omega
  have b4 : b < w.heap.size + 1 + 1 := by omega
  refine calls_of_wp_m Try.func59 rfl ?_
  simp only [Try.ntmps59, List.size_toArray, List.length_cons, List.length_nil, Nat.reduceAdd, Nat.reduceSub, Array.replicate_succ, Array.replicate_zero, List.push_toArray, List.append_toArray, List.nil_append, List.cons_append]
  go_wp2
  refine wp_scope_goto 0 rfl ?_
  go_wp2_with (go_at_call 62; refine (told_false HK.out _).mono ?_; rintro e w1 ⟨rfl, rfl⟩)
  go_step3
  refine ⟨rfl, ?_⟩
  go_wp2
  rw [Exit.noGoto_ret]
  exact postM_ret0 (v := .tuple #[zout, .slice none 0 0, .int .i64 50]) (by simp [results, Try.results59, go_sem, zout]) ⟨rfl, (((Ext.refl w).alloc _).alloc _).alloc _⟩

set_option maxHeartbeats 4000000 in
set_option maxRecDepth 100000 in
theorem first_cut (k m : Int) (b off n cap : Nat) (w : World) (hk : k = 1 ∨ k = 2) (h1 : 2 ≤ n) (h0 : w.cell? ⟨b, off, none⟩ = some (.int .u8 k)) (hm0 : w.cell? ⟨b, off + 1, none⟩ = some (.int .u8 m)) (hm : 1 ≤ m) (hm4 : m ≤ 4) (hs : (n : Int) < 2 + 21 * m) :
    Calls Try.prog 59 #[.slice (some ⟨b, off, none⟩) n cap] w fun e w' => e = .returned (.tuple #[zout, .slice none 0 0, .int .i64 50]) ∧ Ext w w' := by
  have HK := Lib.hid hk
  clear hk
  have h2 : ¬ (n : Int) < 2 := by omega
  have h3 : (2 : Int) ≤ (n : Int) := by omega
  have h4 : ¬ m = 0 := by omega
  have h5 : ¬ 4 < m := by omega
  have h6 : (m == 0) = false := by simpa using h4
  have h7 : decide (4 < m) = false := by simpa using hm4
  have p1 : (1 : Int) ≤ (n : Int) := by omega
  have p2 : (0 : Int) < (n : Int) := by omega
  have hb : b < w.heap.size := by obtain ⟨o, ho, _⟩ := cells_of_cell h0; exact heap_lt ho
  have b0 : ¬ b = w.heap.size := by omega
  have b1 : ¬ b = w.heap.size + 1 := by omega
  have b2 : ¬ b = w.heap.size + 1 + 1 := by omega
  have b3 : b < w.heap.size + 1 := by omega
  have b4 : b < w.heap.size + 1 + 1 := by omega
  refine calls_of_wp_m Try.func59 rfl ?_
  simp only [Try.ntmps59, List.size_toArray, List.length_cons, List.length_nil, Nat.reduceAdd, Nat.reduceSub, Array.replicate_succ, Array.replicate_zero, List.push_toArray, List.append_toArray, List.nil_append, List.cons_append]
  go_wp2
  refine wp_scope_goto 0 rfl ?_
  go_wp2_with (go_at_call 62; refine (told_true HK.out _).mono ?_; rintro e w1 ⟨rfl, rfl⟩)
  go_step3
  refine ⟨rfl, ?_⟩
  go_wp2
  rw [Exit.noGoto_ret]
  exact postM_ret0 (v := .tuple #[zout, .slice none 0 0, .int .i64 50]) (by simp [results, Try.results59, go_sem, zout]) ⟨rfl, (((Ext.refl w).alloc _).alloc _).alloc _⟩

end Go.Proofs.Ytcbneobdelbhlaa
