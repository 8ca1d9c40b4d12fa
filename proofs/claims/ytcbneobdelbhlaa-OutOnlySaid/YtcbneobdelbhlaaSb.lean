/-
  Package split: the iterator of pieces.
-/
import Derived.Test.YtcbneobdelbhlaaSa
import Derived.IntWalk
namespace Go.Proofs.Ytcbneobdelbhlaa
open Go.RowKit Go.Shelf
attribute [local go_sem] Oper.semAt_some

/-- A piece in memory: its bytes' block and room. -/
structure PX where
  d : PieceD
  g : Nat
  cap : Nat

def PX.slice (x : PX) : Value := .slice (some ⟨x.g, 0, none⟩) x.d.bytes.length x.cap
def PX.val (x : PX) : Value := .agg #[.int .i64 x.d.at_, .slice (some ⟨x.g, 0, none⟩) x.d.bytes.length x.cap, .bool x.d.cut]
def PX.Owns (W : World) (x : PX) : Prop := W.ownsRow 0 5 1 (.slice (some ⟨x.g, 0, none⟩) x.d.bytes.length x.cap) x.d.bytes.length (x.d.bytes.map (Value.int .u8))
def encP (x : PX) : Array Value := #[x.val]
def PX.Next (zs : List Int) (pre : List PX) (x : PX) : Prop := pre.length < (pieces zs).length ∧ pre.map PX.d ++ [x.d] = (pieces zs).take (pre.length + 1)

theorem ZW_ext {A B : World} {Z : Nat → Obj → Prop} (h : Ext A B) : Kept Z A B := Kept.of_below h
theorem owns_ext {A B : World} {base e size n : Nat} {v : Value} {xs : List Value} (h : A.ownsRow base e size v n xs) (hb : Ext A B) : B.ownsRow base e size v n xs := row_below h hb

/-- The rest behind a byte, as Go's s[k:] makes it. -/
theorem next_piece {zs : List Int} {a : Nat} {pre : List PX} {c : Int} (hlt : a < zs.length) (hc : zs.getD a 0 = c) (hpre : pre.map PX.d ++ pieces' a (zs.drop a) = pieces zs) (g cap : Nat) :
    PX.Next zs pre ⟨⟨a, (zs.drop (a + 1)).take c.toNat, decide (zs.length - (a + 1) < c.toNat)⟩, g, cap⟩ ∧
    (pre ++ [(⟨⟨a, (zs.drop (a + 1)).take c.toNat, decide (zs.length - (a + 1) < c.toNat)⟩, g, cap⟩ : PX)]).map PX.d ++ pieces' (a + 1 + min c.toNat (zs.length - (a + 1))) (zs.drop (a + 1 + min c.toNat (zs.length - (a + 1)))) = pieces zs := by
  have hd : zs.drop a = c :: zs.drop (a + 1) := by
    rw [List.drop_eq_getElem_cons hlt, ← hc, List.getD_eq_getElem?_getD, List.getElem?_eq_getElem hlt]
    rfl
  rw [hd, pieces'_cons] at hpre
  have hl : (zs.drop (a + 1)).length = zs.length - (a + 1) := by simp
  have hdd : (zs.drop (a + 1)).drop c.toNat = zs.drop (a + 1 + min c.toNat (zs.length - (a + 1))) := by
    rw [List.drop_drop]
    rcases Nat.le_total c.toNat (zs.length - (a + 1)) with h | h
    · rw [Nat.min_eq_left h]
    · rw [Nat.min_eq_right h, List.drop_eq_nil_of_le (by omega), List.drop_eq_nil_of_le (by omega)]
  rw [hl, hdd] at hpre
  refine ⟨⟨?_, ?_⟩, ?_⟩
  · have := congrArg List.length hpre
    simp at this
    omega
  · rw [← hpre, List.take_append]
    simp
    rw [List.take_of_length_le (by simp)]
  · rw [← hpre]
    simp

theorem row3 {w : World} {b : Nat} {c0 c1 c2 : Value} {t : TypeId} (h : w.heap[b]? = some (.cells #[c0, c1, c2] t (0, 0))) :
    w.cell? ⟨b, 0, none⟩ = some c0 ∧ w.cell? ⟨b, 1, none⟩ = some c1 ∧ w.cell? ⟨b, 2, none⟩ = some c2 := by
  simp [World.cell?, h]

theorem yield_piece {J Jx : List PX → World → Prop} {zs ys : List Int} {w wr w2 : World} {l a m g c bb b : Nat} {cb : Bool} {pre : List PX}
    (HY : ∀ (pre : List PX) (x : PX) (W1 : World), J pre W1 → Kept (ZK fun k => (k = bb ∨ k = b) ∧ ¬False) w W1 → x.Owns W1 ∧ PX.Next zs pre x →
      YieldAt Fence.wide 0 Try.prog l (encP x) W1 fun e W' => (e = .returned (.bool true) ∧ J (pre ++ [x]) W' ∧ Kept (ZK fun i => i = bb ∨ i = b) W1 W') ∨ (e = .returned (.bool false) ∧ Jx (pre ++ [x]) W'))
    (HJ : ∀ (s : List PX) (A B : World), J s A → Kept (ZW fun _ => False) A B → J s B) (hJ1 : J pre wr) (hK1 : Kept (ZK fun i => i = bb ∨ i = b) w wr) (hl : ys.length = m) (hX : PX.Next zs pre ⟨⟨a, ys, cb⟩, g, c⟩)
    (hown : w2.ownsRow (wr.alloc (.cells #[.int .i64 a, .slice none 0 0, .bool cb] 46)).drew.heap.size 5 1 (.slice (some ⟨g, 0, none⟩) m c) m (ys.map (Value.int .u8)))
    (hE : Ext (wr.alloc (.cells #[.int .i64 a, .slice none 0 0, .bool cb] 46)).drew w2) :
    YieldAt Fence.wide 0 Try.prog l #[.agg #[.int .i64 a, .slice (some ⟨g, 0, none⟩) m c, .bool cb]] (w2.setCell ⟨wr.heap.size, 1, none⟩ (.slice (some ⟨g, 0, none⟩) m c)) fun e W' =>
      (e = .returned (.bool true) ∧ J (pre ++ [(⟨⟨a, ys, cb⟩, g, c⟩ : PX)]) W' ∧ Kept (ZK fun i => i = bb ∨ i = b) w W') ∨ (e = .returned (.bool false) ∧ Jx (pre ++ [(⟨⟨a, ys, cb⟩, g, c⟩ : PX)]) W') := by
  have E : Ext wr (w2.setCell ⟨wr.heap.size, 1, none⟩ (.slice (some ⟨g, 0, none⟩) m c)) := Below.setCell ((((Ext.refl wr).alloc _).drew).trans hE) (Nat.le_refl _) _
  have hK2 : Kept (ZK fun i => i = bb ∨ i = b) w (w2.setCell ⟨wr.heap.size, 1, none⟩ (.slice (some ⟨g, 0, none⟩) m c)) := hK1.trans (Kept.of_below E)
  subst hl
  have := HY pre ⟨⟨a, ys, cb⟩, g, c⟩ _ (HJ _ _ _ hJ1 (Kept.of_below E)) (hK2.mono fun _ _ h => h.1) ⟨?_, hX⟩
  · obtain ⟨fn, tmps, assign, body, hy, hR⟩ := this
    refine ⟨fn, tmps, assign, body, hy, hR.mono ?_⟩
    rintro e W' (⟨h1, h2, h3⟩ | h)
    · exact .inl ⟨h1, h2, hK2.trans h3⟩
    · exact .inr h
  · exact (ownsRow_setCell_below hown (a := ⟨wr.heap.size, 1, none⟩) (by simp [World.drew]) _).mono (Nat.zero_le _)

set_option maxHeartbeats 4000000 in
set_option maxRecDepth 100000 in
theorem pieces_seq (bb b off n cap : Nat) (zs : List Int) (w : World) (hn : zs.length = n) (hm : n ≤ 5000) (hcap : n ≤ cap)
    (h : w.cell? ⟨bb, 0, none⟩ = some (.slice (some ⟨b, off, none⟩) n cap)) (hr : Row w b off zs) :
    SeqZ Try.prog 79 #[.pointer (some ⟨bb, 0, none⟩)] encP (fun i => i = bb ∨ i = b) (fun _ => False) (fun pre x W => x.Owns W ∧ PX.Next zs pre x) (fun xs => xs.map PX.d = pieces zs) (fun _ => True) w := by
  intro l J Jx W hW hJ hJx hY h0
  have HY := Lib.hid hY
  have HJ := Lib.hid hJ
  have HW := Lib.hid hW
  have HC := Lib.hid h
  have HR := Lib.hid hr
  have HN := Lib.hid hn
  clear hY hJ hJx hW h hr hn
  have p2 : (n : Int) ≤ 5000 := by omega
  refine callsIn_of_wp Try.func79 rfl trivial ?_
  simp only [Try.ntmps79, List.size_toArray, List.length_cons, List.length_nil, Nat.reduceAdd, Nat.reduceSub, Array.replicate_succ, Array.replicate_zero, List.push_toArray, List.append_toArray, List.nil_append, List.cons_append]
  gi_wp2
  gi_loopw [3] (fun v W1 => ∃ (a : Nat) (pre : List PX), a ≤ n ∧ v = .int .i64 a ∧ J pre W1 ∧ Kept (ZK fun i => i = bb ∨ i = b) w W1 ∧ pre.map PX.d ++ pieces' a (zs.drop a) = pieces zs) (fun v _ => n - (intOf v).toNat)
  case atStart => exact ⟨0, [], Nat.zero_le _, rfl, h0, HW.out, rfl⟩
  case round =>
    obtain ⟨a, pre, ha, rfl, hJ1, hK1, hpre⟩ := hrel
    have hcell := hK1.cell HC.out (fun _ _ => .inl rfl)
    by_cases hlt : a < n
    · have hlz : a < zs.length := by rw [HN.out]; exact hlt
      have hbyte := hK1.cell (HR.out.cell a hlz) (fun _ _ => .inr rfl)
      have hbd : 0 ≤ zs.getD a 0 ∧ zs.getD a 0 ≤ 255 := by
        rw [List.getD_eq_getElem?_getD, List.getElem?_eq_getElem hlz]
        exact HR.out.byte _ (List.getElem_mem hlz)
      have HX := Lib.hid (fun g cap => next_piece (c := zs.getD a 0) hlz rfl hpre g cap)
      have HP := Lib.hid (And.intro hJ1 hK1)
      have lb1 : bb < wr.heap.size := by obtain ⟨o, ho, _⟩ := cells_of_cell hcell; exact heap_lt ho
      have lb2 : b < wr.heap.size := by obtain ⟨o, ho, _⟩ := cells_of_cell hbyte; exact heap_lt ho
      clear hpre hJ1 hK1
      generalize hcc : zs.getD a 0 = c at *
      have HCC := Lib.hid hcc
      clear hcc
      obtain ⟨c0, c255⟩ := hbd
      obtain ⟨k, rfl⟩ := Int.eq_ofNat_of_zero_le c0
      have z0 : (0 : Int) ≤ (a : Int) := by omega
      have z1 : (a : Int) < (n : Int) := by omega
      have z2 : (a : Int) + 1 ≤ (n : Int) := by omega
      have z3 : (n : Int) ≤ (cap : Int) := by omega
      have z4 : IntKind.i64.wrap ((a : Int) + 1) = (a : Int) + 1 := IntWalk.i64_in _ (by omega)
      have z5 : IntKind.i64.wrap (k : Int) = (k : Int) := IntWalk.i64_in _ (by omega)
      have z6 : (0 : Int) ≤ (a : Int) + 1 := by omega
      have z7 : ((a : Int) + 1).toNat = a + 1 := by omega
      obtain ⟨ys, hys⟩ : ∃ ys, ys = (zs.drop (a + 1)).take k := ⟨_, rfl⟩
      simp only [Int.toNat_natCast] at HX
      rw [HN.out, ← hys] at HX
      have hyl : ys.length = min k (n - (a + 1)) := by rw [hys, List.length_take, List.length_drop, HN.out]
      have hrow : Row wr b (off + (a + 1)) ys := by
        refine ⟨fun i hi => ?_, fun x hx => HR.out.byte x (by rw [hys] at hx; exact List.mem_of_mem_drop (List.mem_of_mem_take hx))⟩
        rw [hyl] at hi
        have := HP.out.2.cell (HR.out.cell (a + 1 + i) (by rw [HN.out]; omega)) (fun _ _ => .inr rfl)
        rw [Nat.add_assoc, this, hys, List.getD_eq_getElem?_getD, List.getD_eq_getElem?_getD, List.getElem?_take_of_lt (by omega), List.getElem?_drop]
      by_cases hca : cap = a + 1
      · have hn1 : n = a + 1 := by omega
        have hy0 : ys = [] := List.eq_nil_of_length_eq_zero (by rw [hyl]; omega)
        have hq0 : n - (a + 1) = 0 := by omega
        rw [hq0] at HX
        subst hca
        gi_wp2_with fail
        gi_region
        clear z1 z2 z3 z4 z5 z6 z7 hcap hlt hlz hrow hyl hys
        subst hy0
        have HN1 := Lib.hid hn1
        clear hn1
        generalize hq1 : n - (a + 1) = q at *
        subst hq0
        have hm' : min k 0 = 0 := by omega
        by_cases hk : k = 0
        · have y0 : (k : Int) = 0 := by omega
          have y1 : ¬ 0 < k := by omega
          have y2 : ((0 : Nat) : Int) = 0 := rfl
          rw [hm', show decide (0 < k) = false by simp; omega] at HX
          have E1 : Ext wr (wr.alloc (.cells #[.int .i64 a, .slice none 0 0, .bool false] 46)).drew := ((Ext.refl wr).alloc _).drew
          have K80 := Lib.hid (clone_any b off 0 [] (wr.alloc (.cells #[.int .i64 a, .slice none 0 0, .bool false] 46)).drew ⟨fun i hi => absurd hi (Nat.not_lt_zero i), fun x hx => by cases hx⟩ (by simp))
          simp only [List.length_nil] at K80
          clear E1 hm'
          gi_wp2_with (refine ⟨trivial, rfl, (callsIn_wide.2 K80.out).mono ?_⟩; rintro e w2 ⟨g, c, rfl, hown, hE⟩; have hbox := (hE.heap (World.alloc_heap_new wr (.cells #[.int .i64 a, .slice none 0 0, .bool false] 46))); obtain ⟨d0, d1, d2⟩ := row3 hbox; have df := row_free hbox; obtain ⟨fn, tmps, assign, body, hy, hR⟩ := yield_piece (m := 0) HY.out HJ.out HP.out.1 HP.out.2 rfl (HX.out g c).1 hown hE; clear hbox hown hE)
          refine ⟨rfl, hR.mono ?_⟩
          rintro e W3 (⟨rfl, hJ3, hk3⟩ | ⟨rfl, hJx3⟩)
          · gi_wp2
            go_roundw
            case rel => have hn1 := HN1.out; exact ⟨a + 1, _, by omega, by congr 1, hJ3, hk3, (HX.out g c).2⟩
            case measure => have hn1 := HN1.out; simp [intOf]; omega
          · gi_wp2
            refine bodyPost_ret (v := .tuple #[]) (by simp [results, go_sem]) rfl ⟨⟨_, rfl⟩, .inr ⟨_, trivial, hJx3⟩⟩
        · have y1 : (0 : Int) < (k : Int) := by omega
          have y2 : 0 < k := by omega
          rw [hm', show decide (0 < k) = true by simp; omega] at HX
          have E1 : Ext wr (wr.alloc (.cells #[.int .i64 a, .slice none 0 0, .bool true] 46)).drew := ((Ext.refl wr).alloc _).drew
          have K80 := Lib.hid (clone_any b off 0 [] (wr.alloc (.cells #[.int .i64 a, .slice none 0 0, .bool true] 46)).drew ⟨fun i hi => absurd hi (Nat.not_lt_zero i), fun x hx => by cases hx⟩ (by simp))
          simp only [List.length_nil] at K80
          clear E1 hm'
          gi_wp2_with (refine ⟨trivial, rfl, (callsIn_wide.2 K80.out).mono ?_⟩; rintro e w2 ⟨g, c, rfl, hown, hE⟩; have hbox := (hE.heap (World.alloc_heap_new wr (.cells #[.int .i64 a, .slice none 0 0, .bool true] 46))); obtain ⟨d0, d1, d2⟩ := row3 hbox; have df := row_free hbox; obtain ⟨fn, tmps, assign, body, hy, hR⟩ := yield_piece (m := 0) HY.out HJ.out HP.out.1 HP.out.2 rfl (HX.out g c).1 hown hE; clear hbox hown hE)
          refine ⟨rfl, hR.mono ?_⟩
          rintro e W3 (⟨rfl, hJ3, hk3⟩ | ⟨rfl, hJx3⟩)
          · gi_wp2
            go_roundw
            case rel => have hn1 := HN1.out; exact ⟨a + 1, _, by omega, by congr 1, hJ3, hk3, (HX.out g c).2⟩
            case measure => have hn1 := HN1.out; simp [intOf]; omega
          · gi_wp2
            refine bodyPost_ret (v := .tuple #[]) (by simp [results, go_sem]) rfl ⟨⟨_, rfl⟩, .inr ⟨_, trivial, hJx3⟩⟩
      · have hq : n - (a + 1) ≤ cap - (a + 1) := by omega
        gi_wp2_with fail
        gi_region
        have HQ := Lib.hid hlt
        clear z1 z2 z3 z4 z5 z6 z7 hcap hlt hlz
        generalize hqq : n - (a + 1) = q at *
        generalize cap - (a + 1) = r at *
        have hq' : (q : Int) ≤ (r : Int) := by omega
        have HQ2 := Lib.hid hqq
        have HYl := Lib.hid hyl
        have hq5 : q ≤ 5000 := by omega
        have hq5' : (q : Int) ≤ 5000 := by omega
        clear hqq hyl hys
        by_cases hk : k ≤ q
        · have y1 : (k : Int) ≤ (q : Int) := by omega
          have y2 : (k : Int) ≤ (r : Int) := by omega
          have hl : ys.length = k := by rw [HYl.out]; omega
          have hm' : min k q = k := by omega
          rw [hm', show decide (q < k) = false by simp; omega] at HX
          have hm5 : k ≤ 5000 := by omega
          have E1 : Ext wr (wr.alloc (.cells #[.int .i64 a, .slice none 0 0, .bool false] 46)).drew := ((Ext.refl wr).alloc _).drew
          have HC2 := clone_any b (off + (a + 1)) r ys _ (E1.row hrow) (by omega)
          rw [hl] at HC2
          have K80 := Lib.hid HC2
          have HL := Lib.hid hl
          clear HC2 E1 hrow hl hm'
          gi_wp2_with (refine ⟨trivial, rfl, (callsIn_wide.2 K80.out).mono ?_⟩; rintro e w2 ⟨g, c, rfl, hown, hE⟩; have hbox := (hE.heap (World.alloc_heap_new wr (.cells #[.int .i64 a, .slice none 0 0, .bool false] 46))); obtain ⟨d0, d1, d2⟩ := row3 hbox; have df := row_free hbox; obtain ⟨fn, tmps, assign, body, hy, hR⟩ := yield_piece HY.out HJ.out HP.out.1 HP.out.2 HL.out (HX.out g c).1 hown hE; clear hbox hown hE)
          refine ⟨rfl, hR.mono ?_⟩
          rintro e W3 (⟨rfl, hJ3, hk3⟩ | ⟨rfl, hJx3⟩)
          · gi_wp2
            go_roundw
            case rel =>
              have hqq := HQ2.out
              have hlt := HQ.out
              exact ⟨a + 1 + k, _, by omega, by congr 1; omega, hJ3, hk3, (HX.out g c).2⟩
            case measure => have hlt := HQ.out; simp [intOf]; omega
          · gi_wp2
            refine bodyPost_ret (v := .tuple #[]) (by simp [results, go_sem]) rfl ⟨⟨_, rfl⟩, .inr ⟨_, trivial, hJx3⟩⟩
        · have y1 : (q : Int) < (k : Int) := by omega
          have y2 : q < k := by omega
          have hl : ys.length = q := by rw [HYl.out]; omega
          have hm' : min k q = q := by omega
          rw [hm', show decide (q < k) = true by simp; omega] at HX
          have E1 : Ext wr (wr.alloc (.cells #[.int .i64 a, .slice none 0 0, .bool true] 46)).drew := ((Ext.refl wr).alloc _).drew
          have HC2 := clone_any b (off + (a + 1)) r ys _ (E1.row hrow) (by omega)
          rw [hl] at HC2
          have K80 := Lib.hid HC2
          have HL := Lib.hid hl
          clear HC2 E1 hrow hl hm'
          gi_wp2_with (refine ⟨trivial, rfl, (callsIn_wide.2 K80.out).mono ?_⟩; rintro e w2 ⟨g, c, rfl, hown, hE⟩; have hbox := (hE.heap (World.alloc_heap_new wr (.cells #[.int .i64 a, .slice none 0 0, .bool true] 46))); obtain ⟨d0, d1, d2⟩ := row3 hbox; have df := row_free hbox; obtain ⟨fn, tmps, assign, body, hy, hR⟩ := yield_piece HY.out HJ.out HP.out.1 HP.out.2 HL.out (HX.out g c).1 hown hE; clear hbox hown hE)
          refine ⟨rfl, hR.mono ?_⟩
          rintro e W3 (⟨rfl, hJ3, hk3⟩ | ⟨rfl, hJx3⟩)
          · gi_wp2
            go_roundw
            case rel =>
              have hqq := HQ2.out
              have hlt := HQ.out
              exact ⟨a + 1 + q, _, by omega, by congr 1; omega, hJ3, hk3, (HX.out g c).2⟩
            case measure => have hlt := HQ.out; simp [intOf]; omega
          · gi_wp2
            refine bodyPost_ret (v := .tuple #[]) (by simp [results, go_sem]) rfl ⟨⟨_, rfl⟩, .inr ⟨_, trivial, hJx3⟩⟩
    · have e : a = n := by omega
      subst e
      have e : pieces' a (zs.drop a) = [] := by rw [List.drop_eq_nil_of_le (by rw [HN.out]; exact Nat.le_refl _)]; rfl
      rw [e, List.append_nil] at hpre
      have HP := Lib.hid (And.intro hJ1 hpre)
      clear hJ1 hK1 hpre e
      gi_wp2
      go_end0
      exact ⟨⟨_, rfl⟩, .inl ⟨_, HP.out.2, HP.out.1⟩⟩

end Go.Proofs.Ytcbneobdelbhlaa
