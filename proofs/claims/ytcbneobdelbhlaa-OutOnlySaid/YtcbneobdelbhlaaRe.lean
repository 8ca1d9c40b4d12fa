/-
  Walks of package record: Right.
-/
import Derived.Test.YtcbneobdelbhlaaRd
namespace Go.Proofs.Ytcbneobdelbhlaa
open Go.RowKit Go.Shelf
attribute [local go_sem] Oper.semAt_some

set_option maxHeartbeats 400000 in
theorem told_any (c0 c1 c2 c3 c4 c5 c6 c7 : Value) (w : World) :
    Calls Try.prog 73 #[.agg #[c0, c1, c2, c3, c4, c5, c6, c7]] w fun e w' => e = .returned (.func (.func 94) #[] #[.pointer (some ⟨w.heap.size, 0, none⟩)]) ∧
      w'.heap[w.heap.size]? = some (.cells #[c0, c1, c2, c3, c4, c5, c6, c7] 34 (0, 0)) ∧ Below w.heap.size w w' ∧ w'.heap.size = w.heap.size + 1 := by
  go_enter Try.func73, Try.ntmps73
  go_wp2
  go_ret
  exact ⟨rfl, World.alloc_heap_new w _, (Below.refl _ _).alloc (Nat.le_refl _) _, by simp⟩

theorem put_cell {W : World} {D : Nat} {a : Addr} {v : Value} (hK : W.heap[D]? = some (.deferred (some []))) (h : W.cell? a = some v) (o : Obj) : (W.putObj D o).cell? a = some v := by
  obtain ⟨o', ho', hcl⟩ := cells_of_cell h
  have ne : a.block ≠ D := fun e => by rw [e, hK] at ho'; cases ho'; cases hcl
  rw [World.cell?_of_block ((World.putObj_heap_other ne).trans rfl), h]

theorem set_defer {W : World} {D : Nat} {a : Addr} {v : Value} (hK : W.heap[D]? = some (.deferred (some []))) (h : W.cell? a = some v) (u : Value) : (W.setCell a u).heap[D]? = some (.deferred (some [])) := by
  obtain ⟨o', ho', hcl⟩ := cells_of_cell h
  have ne : D ≠ a.block := fun e => by rw [← e, hK] at ho'; cases ho'; cases hcl
  exact (Below.heap_setCell W a u D ne).trans hK

/-- The walk of Right, over whatever told's iterator tells: one thing, in whose bounds its source is. -/
def RightIx (n : Nat) (w : World) (b2 : Nat) (S : Int) (B : Bool) (c : Code) (_ : List Tl) (W : World) : Prop :=
  Below n w W ∧ n ≤ W.heap.size ∧ W.frozen? ⟨b2, 0, none⟩ = false ∧
    ((c = .ret ∧ 0 ≤ S ∧ S ≤ 255 ∧ W.cell? ⟨b2, 0, none⟩ = some (.bool B)) ∨ (c = .goto 0 ∧ ¬ (0 ≤ S ∧ S ≤ 255) ∧ ∃ v, W.cell? ⟨b2, 0, none⟩ = some v))

set_option maxHeartbeats 2000000 in
theorem right_walk (kd ts src seq ek rs rt S T : Int) (re im : Nat) (B R : Bool) (one : Bool) (w : World)
    (hseq : ∀ (b : Nat) (w : World), w.heap[b]? = some (.cells #[.int .u8 kd, .int .i64 ts, .int .i64 src, .int .i64 seq, .int .i64 ek, .complex .f64 re im, .int .i64 rs, .int .i64 rt] 34 (0, 0)) →
      SeqZ Try.prog 94 #[.pointer (some ⟨b, 0, none⟩)] Tl.enc (fun k => k = b) (fun _ => False) (fun _ t W => t.Good S T B W) (fun xs => xs.length = one.toNat) (fun _ => one = true) w)
    (hR : R = (one && (decide (0 ≤ S) && decide (S ≤ 255)) && B)) :
    Calls Try.prog 43 #[.agg #[.int .u8 kd, .int .i64 ts, .int .i64 src, .int .i64 seq, .int .i64 ek, .complex .f64 re im, .int .i64 rs, .int .i64 rt]] w fun e w' => e = .returned (.bool R) ∧ Below w.heap.size w w' := by
  have HS := Lib.hid hseq
  have HR := Lib.hid hR
  clear hseq hR
  refine calls_of_wp_m Try.func43 rfl ?_
  simp only [Try.ntmps43, List.size_toArray, List.length_cons, List.length_nil, Nat.reduceAdd, Nat.reduceSub, Array.replicate_succ, Array.replicate_zero, List.push_toArray, List.append_toArray, List.nil_append, List.cons_append]
  go_wp2
  refine wp_scope_goto 0 rfl ?_
  go_wp2_with (go_at_call 73; refine (told_any _ _ _ _ _ _ _ _ _).mono ?_; rintro e w1 ⟨rfl, hh, hb, hsz⟩; have hB := Lib.hid hb; have hH := Lib.hid hh; have hZ := Lib.hid hsz; clear hb hh hsz)
  replace hB := hB.out
  replace hZ := hZ.out
  replace hH := hH.out
  simp only [World.size_alloc] at hB hZ hH
  have c2 : w1.cell? ⟨w.heap.size + 1, 0, none⟩ = some (.bool false) := (hB.cell (p := ⟨w.heap.size + 1, 0, none⟩) (by simp)).trans (by simp [go_sem])
  have f2 : w1.frozen? ⟨w.heap.size + 1, 0, none⟩ = false := (hB.frozen (p := ⟨w.heap.size + 1, 0, none⟩) (by simp)).trans (by simp [go_sem])
  have bw : Below w.heap.size w w1 := (((Below.refl _ _).alloc (Nat.le_refl _) _).alloc (by simp) _).trans (hB.mono (by omega))
  clear hB
  refine wp_range (gf := 94) rfl (enters_of Try.func94 (by kernel_rfl) rfl) (HS.out _ w1 hH) (by rintro k rfl; omega) (fun _ h => h.elim) (fun _ => rfl)
    (fun pre W => pre = [] ∧ Below w.heap.size w W ∧ w.heap.size ≤ W.heap.size ∧ W.frozen? ⟨w.heap.size + 1, 0, none⟩ = false ∧ ∃ v, W.cell? ⟨w.heap.size + 1, 0, none⟩ = some v)
    (RightIx w.heap.size w (w.heap.size + 1) S B) ?hI ?hIx ⟨rfl, bw, by omega, f2, _, c2⟩
    (fun pre x a' W => ∃ b3 : Nat, Fr a' #[.agg #[.int .u8 kd, .int .i64 ts, .int .i64 src, .int .i64 seq, .int .i64 ek, .complex .f64 re im, .int .i64 rs, .int .i64 rt], .pointer (some ⟨w.heap.size, 0, none⟩), .pointer (some ⟨w.heap.size + 1, 0, none⟩), .pointer (some ⟨b3, 0, none⟩),
        .agg #[.int .u8 kd, .int .i64 ts, .int .i64 src, .int .i64 seq, .int .i64 ek, .complex .f64 re im, .int .i64 rs, .int .i64 rt], .func (.func 94) #[] #[.pointer (some ⟨w.heap.size + 1 + 1, 0, none⟩)], .agg #[.int .i64 x.src, .int .i64 x.ts, .func (.func x.f) #[] x.cap], undef, undef, undef, undef, undef, undef, undef, undef, undef, undef, undef] ∧
      w.heap.size + 1 < b3 ∧ (W.cell? ⟨b3, 0, none⟩ = some (.int .i64 x.src) ∧ W.cell? ⟨b3, 1, none⟩ = some (.int .i64 x.ts) ∧ W.cell? ⟨b3, 2, none⟩ = some (.func (.func x.f) #[] x.cap)) ∧
      Fact (Below w.heap.size w W ∧ w.heap.size ≤ W.heap.size ∧ W.frozen? ⟨w.heap.size + 1, 0, none⟩ = false ∧ (∃ v, W.cell? ⟨w.heap.size + 1, 0, none⟩ = some v) ∧ x.Good S T B W))
    ?hA ?assign ?body ?done ?stop
  case hI =>
    rintro pre A C ⟨h0, h1, h2, h3, v, h4⟩ hk
    exact ⟨h0, ZI_below hk h1 (by omega) h2 (fun _ _ h => h.elim), Nat.le_trans h2 hk.size, (ZI_frozen hk h4 (fun h => h.elim)).trans h3, v, ZI_cell hk h4 (fun h => h.elim)⟩
  case hIx =>
    rintro c pre A C ⟨h1, h2, h3, h4⟩ hk
    refine ⟨ZI_below hk h1 (by omega) h2 (fun _ _ h => h.elim), Nat.le_trans h2 hk.size, ?_, ?_⟩
    · rcases h4 with ⟨_, _, _, h4⟩ | ⟨_, _, v, h4⟩
      · exact (ZI_frozen hk h4 (fun h => h.elim)).trans h3
      · exact (ZI_frozen hk h4 (fun h => h.elim)).trans h3
    · rcases h4 with ⟨e, p, q, h4⟩ | ⟨e, p, v, h4⟩
      · exact .inl ⟨e, p, q, ZI_cell hk h4 (fun h => h.elim)⟩
      · exact .inr ⟨e, p, v, ZI_cell hk h4 (fun h => h.elim)⟩
  case hA =>
    rintro pre x a' A C ⟨b3, hF, hb3, ⟨k0, k1, k2⟩, h1, h2, h3, ⟨v, h4⟩, hg⟩ hk
    exact ⟨b3, hF, hb3, ⟨ZI_cell hk k0 (fun h => h.elim), ZI_cell hk k1 (fun h => h.elim), ZI_cell hk k2 (fun h => h.elim)⟩, ZI_below hk h1 (by omega) h2 (fun _ _ h => h.elim), Nat.le_trans h2 hk.size, (ZI_frozen hk h4 (fun h => h.elim)).trans h3, ⟨v, ZI_cell hk h4 (fun h => h.elim)⟩,
      hg.src, hg.ts, fun W' hW' => hg.fine W' ((hk.mono fun _ _ h => ⟨fun h => h.elim, .inr h⟩).trans hW'), hg.enter⟩
  case assign =>
    rintro l pre x W ⟨_, h1, h2, h3, h4⟩ _ hg
    have hlt : w.heap.size + 1 < W.heap.size := by obtain ⟨v, h4⟩ := h4; obtain ⟨o, ho, _⟩ := cells_of_cell h4; exact heap_lt ho
    have X := Lib.hid (And.intro h1 (And.intro h2 (And.intro h3 (And.intro h4 hg))))
    clear h1 h2 h3 h4 hg
    unfold Tl.enc
    gi_wp2
    obtain ⟨h1, h2, h3, ⟨v, h4⟩, hg⟩ := X.out
    refine ⟨(Kept.refl _ _).alloc _, W.heap.size, rfl, hlt, ⟨by simp [go_sem], by simp [go_sem], by simp [go_sem]⟩, h1.alloc h2 _, by simp; omega, ?_, ⟨v, cell_later_alloc h4 _⟩, hg.src, hg.ts, fun W' hW' => hg.fine W' (((Kept.refl _ _).alloc _).trans hW'), hg.enter⟩
    rw [World.frozen?_of_block (Below.heap_alloc W _ (w.heap.size + 1) hlt)]; exact h3
  case body =>
    rintro l pre x a' W ⟨b3, rfl, hb3, ⟨k0, k1, k2⟩, h1, h2, h3, ⟨v, h4⟩, hg⟩
    obtain ⟨xs, xt, xf, xc⟩ := x
    obtain ⟨rfl, rfl, hfine, hent⟩ := hg
    dsimp only at k0 k1 k2 hfine hent ⊢
    by_cases hin : 0 ≤ xs ∧ xs ≤ 255
    · obtain ⟨i1, i2⟩ := hin
      have HF := Lib.hid hfine
      have X := Lib.hid (And.intro h1 (And.intro h2 (And.intro h3 h4)))
      clear h1 h2 hfine
      gi_wp2_with fail
      refine ⟨trivial, rfl, (CallsIn.inRound l (callsIn_wide.2 (HF.out W (Kept.refl _ _)))).mono ?_⟩
      rintro e w2 ⟨rfl, hb2⟩
      have g4 := cell_below hb2 h4
      have g3 : w2.frozen? ⟨w.heap.size + 1, 0, none⟩ = false := by
        obtain ⟨o, ho, _⟩ := cells_of_cell h4
        exact (hb2.frozen (p := ⟨w.heap.size + 1, 0, none⟩) (heap_lt ho)).trans h3
      have hB2 := Lib.hid hb2
      clear hb2
      gi_wp2
      obtain ⟨h1, h2, _⟩ := X.out
      have hb2 := hB2.out
      have hs2 := hb2.size
      refine ⟨ZB_set (Kept.of_below hb2) g4 (by simp) _, (h1.trans (hb2.mono h2)).setCell (p := ⟨w.heap.size + 1, 0, none⟩) (by simp) _, by simp [World.setCell]; omega, by rw [World.frozen?_setCell]; exact g3, .inl ⟨rfl, i1, i2, World.cell?_setCell_same' _ _ _ (by rw [g4]; rfl)⟩⟩
    · have X := Lib.hid (And.intro h1 (And.intro h2 (And.intro h3 h4)))
      clear h1 h2 h3 h4 hfine
      by_cases hl : xs < 0
      · clear hin
        gi_wp2
        obtain ⟨h1, h2, h3, h4⟩ := X.out
        exact wpIn_goto (And.intro (Kept.refl _ _) (show RightIx w.heap.size w (w.heap.size + 1) xs B (.goto 0) _ W from ⟨h1, h2, h3, .inr ⟨rfl, by omega, v, h4⟩⟩))
      · have hg : 255 < xs := by omega
        clear hin
        gi_wp2
        obtain ⟨h1, h2, h3, h4⟩ := X.out
        exact wpIn_goto (And.intro (Kept.refl _ _) (show RightIx w.heap.size w (w.heap.size + 1) xs B (.goto 0) _ W from ⟨h1, h2, h3, .inr ⟨rfl, by omega, v, h4⟩⟩))
  case done =>
    rintro D xs W hD hlen ⟨rfl, h1, h2, h3, v, h4⟩ hK
    have ho : one = false := by cases one <;> simp_all
    have hr : R = false := by rw [HR.out, ho]; rfl
    have X := Lib.hid (And.intro h1 (And.intro h2 (show w.heap.size + 1 ≤ D by omega)))
    have XK := Lib.hid hK
    clear h1 h2 hK hD hlen ho HS HR
    subst hr
    go_wp2
    go_step3
    go_wp2
    obtain ⟨h1, h2, h5⟩ := X.out
    have hK2 := set_defer XK.out h4 (.bool false)
    refine postM_ret1 (D := D) hK2 (v := .bool false) ?_ ⟨rfl, ?_⟩
    · have hc := put_cell hK2 (World.cell?_setCell_same' _ _ (.bool false) (by rw [h4]; rfl)) (.deferred none)
      simp [results, Try.results43, go_sem, hc]
    · exact below_putObj (h1.setCell (p := ⟨w.heap.size + 1, 0, none⟩) (by simp) _) (by omega) _
  case stop =>
    rintro D c pre W hD ho ⟨h1, h2, h3, h4⟩ hK
    subst ho
    have X := Lib.hid (And.intro h1 (And.intro h2 (show w.heap.size + 1 ≤ D by omega)))
    have XK := Lib.hid hK
    clear h1 h2 hK hD HS
    rcases h4 with ⟨rfl, i1, i2, h4⟩ | ⟨rfl, i1, v, h4⟩
    · have hr : R = B := by rw [HR.out]; simp [i1, i2]
      clear HR
      subst hr
      go_wp2
      obtain ⟨h1, h2, h5⟩ := X.out
      refine postM_ret1 (D := D) XK.out (v := .bool R) ?_ ⟨rfl, below_putObj h1 (by omega) _⟩
      have hc := put_cell XK.out h4 (.deferred none)
      simp [results, Try.results43, go_sem, hc]
    · have hr : R = false := by rw [HR.out]; simp; omega
      clear HR
      subst hr
      go_step3
      refine ⟨rfl, ?_⟩
      go_wp2
      obtain ⟨h1, h2, h5⟩ := X.out
      have hK2 := set_defer XK.out h4 (.bool false)
      refine postM_ret1 (D := D) hK2 (v := .bool false) ?_ ⟨rfl, ?_⟩
      · have hc := put_cell hK2 (World.cell?_setCell_same' _ _ (.bool false) (by rw [h4]; rfl)) (.deferred none)
        simp [results, Try.results43, go_sem, hc]
      · exact below_putObj (h1.setCell (p := ⟨w.heap.size + 1, 0, none⟩) (by simp) _) (by omega) _

/-- When a record is right. -/
def recR (kd ts src seq ek x y rs rt : Int) : Bool :=
  if kd = 1 then (decide (0 ≤ src) && decide (src ≤ 255)) && (decide (rs = 0 ∧ rt = 0) && evR ts 0 seq ek)
  else if kd = 2 then (decide (0 ≤ rs) && decide (rs ≤ 255)) && (zeroE ts src seq ek x y && (decide (0 ≤ rt) && decide (rt ≤ 1099511627776)))
  else false

theorem recordRight_Pt {kd ts src seq ek rs rt : Int} {re im : Nat} {x y : Int} (hp : Pt re im x y) (w : World) :
    Calls Try.prog 43 #[.agg #[.int .u8 kd, .int .i64 ts, .int .i64 src, .int .i64 seq, .int .i64 ek, .complex .f64 re im, .int .i64 rs, .int .i64 rt]] w fun e w' => e = .returned (.bool (recR kd ts src seq ek x y rs rt)) ∧ Below w.heap.size w w' := by
  by_cases h1 : kd = 1
  · subst h1
    exact right_walk 1 ts src seq ek rs rt src ts re im (decide (rs = 0 ∧ rt = 0) && evR ts 0 seq ek) _ true w (fun b w h => told_seq_1 hp b w h) (by simp [recR])
  · by_cases h2 : kd = 2
    · subst h2
      exact right_walk 2 ts src seq ek rs rt rs rt re im (zeroE ts src seq ek x y && (decide (0 ≤ rt) && decide (rt ≤ 1099511627776))) _ true w (fun b w h => told_seq_2 hp b w h) (by simp [recR])
    · exact right_walk kd ts src seq ek rs rt 0 0 re im false _ false w (fun b w h => told_seq_0 hp kd h1 h2 b w h _) (by simp [recR, h1, h2])

end Go.Proofs.Ytcbneobdelbhlaa
