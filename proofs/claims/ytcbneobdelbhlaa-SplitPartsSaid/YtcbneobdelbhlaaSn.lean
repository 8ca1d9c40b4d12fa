/-
  Plain laws of pieces: what SplitWhole asks.
-/
import Derived.Test.YtcbneobdelbhlaaSi
namespace Go.Proofs.Ytcbneobdelbhlaa
open Go.RowKit Go.Shelf

theorem pcs_succ (f a : Nat) (c : Int) (rest : List Int) : pcs (f + 1) a (c :: rest) = ⟨a, rest.take c.toNat, decide (rest.length < c.toNat)⟩ :: pcs f (a + 1 + min c.toNat rest.length) (rest.drop c.toNat) := rfl

/-- Joined, the pieces that are whole are a beginning of the script. -/
theorem join_pieces : ∀ (f a : Nat) (zs : List Int), zs.length ≤ f → (∀ x ∈ zs, 0 ≤ x) → joinD (((pcs f a zs).filter fun d => !d.cut).map PieceD.bytes) <+: zs
  | 0, _, zs, h, _ => by simp [pcs, joinD]
  | _ + 1, _, [], _, _ => by simp [pcs, joinD]
  | f + 1, a, c :: rest, h, hb => by
    have hc := hb c (by simp)
    have ih := join_pieces f (a + 1 + min c.toNat rest.length) (rest.drop c.toNat) (by simp at h ⊢; omega) (fun x hx => hb x (List.mem_cons_of_mem _ (List.mem_of_mem_drop hx)))
    rw [pcs_succ]
    by_cases hcut : rest.length < c.toNat
    · have e : rest.drop c.toNat = [] := List.drop_eq_nil_of_le (by omega)
      rw [e] at ih ⊢
      have e2 : ∀ a, pcs f a [] = [] := fun a => by cases f <;> rfl
      simp [hcut, e2, joinD]
    · have hl : (rest.take c.toNat).length = c.toNat := by rw [List.length_take]; omega
      simp only [List.filter_cons, hcut, decide_false, Bool.not_false, if_true, List.map_cons]
      have e : joinD ((rest.take c.toNat) :: ((pcs f (a + 1 + min c.toNat rest.length) (rest.drop c.toNat)).filter fun d => !d.cut).map PieceD.bytes) = c :: (rest.take c.toNat ++ joinD (((pcs f (a + 1 + min c.toNat rest.length) (rest.drop c.toNat)).filter fun d => !d.cut).map PieceD.bytes)) := by
        simp only [joinD, List.flatMap_cons, hl]
        rw [Int.toNat_of_nonneg hc]
        rfl
      rw [e]
      obtain ⟨t, ht⟩ := ih
      exact ⟨t, by rw [List.cons_append, List.append_assoc, ht, List.take_append_drop]⟩

def PX.toJ (x : PX) : JX := ⟨some ⟨x.g, 0, none⟩, x.cap, x.d.bytes⟩
/-- The whole ones among the first i. -/
def wholes (xs : List PX) (i : Nat) : List JX := ((xs.take i).filter fun x => !x.d.cut).map PX.toJ
theorem wholes_succ {xs : List PX} {i : Nat} {x : PX} (h : xs[i]? = some x) : wholes xs (i + 1) = wholes xs i ++ (if x.d.cut then [] else [x.toJ]) := by
  unfold wholes
  rw [List.take_add_one, h]
  simp [List.filter_append, List.filter_cons]
  cases x.d.cut <;> simp
theorem wholes_bytes (xs : List PX) : (wholes xs xs.length).map JX.bytes = ((xs.map PX.d).filter fun d => !d.cut).map PieceD.bytes := by
  unfold wholes
  rw [List.take_length, List.map_map, List.filter_map, List.map_map]
  rfl
theorem wholes_len (xs : List PX) (i : Nat) : (wholes xs i).length ≤ i := by
  unfold wholes
  rw [List.length_map]
  refine Nat.le_trans (List.length_filter_le _ _) ?_
  rw [List.length_take]; omega
theorem wholes_mem {xs : List PX} {i : Nat} {j : JX} (h : j ∈ wholes xs i) : ∃ x ∈ xs, j = x.toJ := by
  unfold wholes at h
  obtain ⟨x, hx, rfl⟩ := List.mem_map.1 h
  exact ⟨x, List.mem_of_mem_take (List.mem_filter.1 hx).1, rfl⟩

/-- The piece that stands at 'a'. -/
theorem piece_at {zs : List Int} {ps : List PieceD} {a i : Nat} {d : PieceD} (h : pieces' a (zs.drop a) = ps.drop i) (hd : ps[i]? = some d) :
    ∃ c : Int, a < zs.length ∧ zs.getD a 0 = c ∧ d = ⟨a, (zs.drop (a + 1)).take c.toNat, decide (zs.length - (a + 1) < c.toNat)⟩ ∧
      pieces' (a + 1 + min c.toNat (zs.length - (a + 1))) (zs.drop (a + 1 + min c.toNat (zs.length - (a + 1)))) = ps.drop (i + 1) := by
  have hi : i < ps.length := (List.getElem?_eq_some_iff.1 hd).1
  have hps : ps.drop i = d :: ps.drop (i + 1) := by
    rw [List.drop_eq_getElem_cons hi]
    congr 1
    exact (List.getElem?_eq_some_iff.1 hd).2
  have hlt : a < zs.length := by
    rcases Nat.lt_or_ge a zs.length with h' | h'
    · exact h'
    · rw [List.drop_eq_nil_of_le h', pieces'_nil, hps] at h; cases h
  have hdz : zs.drop a = zs.getD a 0 :: zs.drop (a + 1) := by
    rw [List.drop_eq_getElem_cons hlt, List.getD_eq_getElem?_getD, List.getElem?_eq_getElem hlt]
    rfl
  refine ⟨zs.getD a 0, hlt, rfl, ?_⟩
  rw [hdz, pieces'_cons, hps] at h
  injection h with h1 h2
  rw [List.length_drop] at h1 h2
  refine ⟨h1.symm, ?_⟩
  rw [← h2, List.drop_drop]
  congr 1
  rcases Nat.le_total (zs.getD a 0).toNat (zs.length - (a + 1)) with h' | h'
  · rw [Nat.min_eq_left h']
  · rw [Nat.min_eq_right h', List.drop_eq_nil_of_le (by omega), List.drop_eq_nil_of_le (by omega)]

theorem pieces_end {zs : List Int} {ps : List PieceD} {a i : Nat} (h : pieces' a (zs.drop a) = ps.drop i) (hi : ps.length ≤ i) (ha : a ≤ zs.length) : a = zs.length := by
  rw [List.drop_eq_nil_of_le hi] at h
  rcases Nat.lt_or_ge a zs.length with h' | h'
  · rw [List.drop_eq_getElem_cons h', pieces'_cons] at h; cases h
  · omega
theorem pieces_last {zs : List Int} {ps : List PieceD} {a i : Nat} (h : pieces' a (zs.drop a) = ps.drop i) (ha : zs.length ≤ a) : ps.length ≤ i := by
  rw [List.drop_eq_nil_of_le ha, pieces'_nil] at h
  have := congrArg List.length h
  simp at this
  omega

theorem row_sub {W : World} {b off : Nat} {zs : List Int} (h : Row W b off zs) (s m : Nat) : Row W b (off + s) ((zs.drop s).take m) := by
  refine ⟨fun i hi => ?_, fun x hx => h.byte x (List.mem_of_mem_drop (List.mem_of_mem_take hx))⟩
  rw [List.length_take, List.length_drop] at hi
  have := h.cell (s + i) (by omega)
  rw [Nat.add_assoc, this, List.getD_eq_getElem?_getD, List.getD_eq_getElem?_getD, List.getElem?_take_of_lt (by omega), List.getElem?_drop]

/-- Join of nothing. -/
theorem join_nil (w : World) : Calls Try.prog 22 #[.slice none 0 0] w fun e w' => e = .returned (.tuple #[.slice none 0 0, .int .i64 0]) ∧ Ext w w' := by
  go_enter Try.func22, Try.ntmps22
  go_wp2
  refine wp_loop_rounds 1 ?_
  rw [rounds_succ]
  go_wp2
  go_ret2
  exact ⟨rfl, Ext.refl w⟩

/-- Join of a row of one's own. -/
theorem join_own {base : Nat} {v : Value} (l : List JX) (w : World) (hm : l.length ≤ 5000) (h255 : ∀ x ∈ l, x.bytes.length ≤ 255) (hown : w.ownsRow base 30 1 v l.length (l.map JX.val)) (hreads : ∀ x ∈ l, x.Reads w) (hb : ∀ x ∈ l, ∀ z ∈ x.bytes, 0 ≤ z ∧ z ≤ 255) :
    Calls Try.prog 22 #[v] w fun e w' => ∃ B c, e = .returned (.tuple #[.slice B (joinD (l.map JX.bytes)).length c, .int .i64 0]) ∧ (∀ W, Ext w' W → Conv W (.slice B (joinD (l.map JX.bytes)).length c) (joinD (l.map JX.bytes))) ∧ Ext w w' := by
  have hjb : ∀ z ∈ joinD (l.map JX.bytes), 0 ≤ z ∧ z ≤ 255 := by
    intro z hz
    simp only [joinD, List.mem_flatMap, List.mem_map] at hz
    obtain ⟨_, ⟨x, hx, rfl⟩, hz⟩ := hz
    rcases List.mem_cons.1 hz with rfl | hz
    · have := h255 x hx; omega
    · exact hb x hx z hz
  rcases hown.2 with ⟨rfl, h0⟩ | ⟨g, cap, cur, rfl, _, hh, _⟩
  · have : l = [] := List.eq_nil_of_length_eq_zero h0
    subst this
    refine (join_nil w).mono ?_
    rintro e w' ⟨rfl, hE⟩
    exact ⟨none, 0, rfl, fun W _ => Conv.zero W none 0, hE⟩
  · refine (join_any g l.length cap l w rfl hm h255 (fun j x hx => ?_) hreads).mono ?_
    · rw [hown.cellAt j (by have := (List.getElem?_eq_some_iff.1 hx).1; omega), List.getElem?_map, hx]; rfl
    · rintro e w' ⟨v', rfl, ho, hE⟩
      generalize hz : joinD (l.map JX.bytes) = jd at *
      rcases ho.2 with ⟨rfl, h0⟩ | ⟨g', cap', cur', rfl, _, hh', _⟩
      · have hz0 : jd = [] := List.eq_nil_of_length_eq_zero h0
        exact ⟨none, 0, by rw [h0], fun W _ => by rw [h0, hz0]; exact Conv.zero W none 0, hE⟩
      · refine ⟨_, _, rfl, fun W h => ?_, hE⟩
        exact Conv.of_row (row_of_own ((owns_ext ho h).mono (Nat.zero_le _)) hjb).1 rfl

end Go.Proofs.Ytcbneobdelbhlaa
