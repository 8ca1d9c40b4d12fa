/-
  SplitParts: rows that are shifted; both comparisons of rows that may be nil.
-/
import Derived.Test.YtcbneobdelbhlaaSs
namespace Go.Proofs.Ytcbneobdelbhlaa
open Go.RowKit Go.Shelf

theorem wpList_wanted {P : Program} {ops : Array Oper} {Q : Exit → Act → World → Prop} {a : Act} {w : World} {rest : List Oper} {o : Oper} (hw : Region.wanted o (yielded ops a.tmps) = true)
    (h : ∀ K : Act → World → Prop, (∀ a w, wpList P ops Q rest a w → K a w) → o.wp P a w K Q) : wpList P ops Q (o :: rest) a w :=
  wpList_step fun K hK => by rw [if_pos hw]; exact h K hK

/-- The append whose source may be nil, at an operation that is guarded, and wanted. -/
theorem wpList_append_srcg {P : Program} {w : World} {ops : Array Oper} {rest : List Oper} {o : Oper} {a : Act} {Q : Exit → Act → World → Prop} (hgd : Region.wanted o (yielded ops a.tmps) = true) (s x : Operand) (t : TypeId)
    (ho : o.op = .call { callee := .builtin .append, args := #[s, x], argTypes := #[t, t] })
    (base : Nat) (e : TypeId) (i : TypeInfo) (z : Value) (size bytes : Nat) (ht : P.underlying t = some (.slice e)) (hi : P.info? e = some i) (hz : i.zero = some z)
    (hsize : i.size = size) (hby : i.bytes = bytes) (hzs : z.cells.size = size) (hsz : 0 < size)
    (g0 c0 n : Nat) (xs : List Value) (hs : a.eval s = .slice (some ⟨g0, 0, none⟩) n c0) (hown : w.ownsRow base e size (.slice (some ⟨g0, 0, none⟩) n c0) n xs)
    (A : Option Addr) (m c : Nat) (news : List Value) (hx : a.eval x = .slice A m c) (hl : news.length = m * size) (hA : A = none → m = 0 ∧ c = 0) (hnews : ∀ ad, A = some ad → ∀ j u, news[j]? = some u → w.cell? (ad.add j) = some u) (h1 : ∀ u ∈ news, u.oneCell' = true)
    (h63 : n + m ≤ maxLen) (hbytes : (n + m) * bytes ≤ 140737488355328) (hbase : base ≤ w.heap.size)
    (h : ∀ g cap w', w'.ownsRow base e size (.slice (some ⟨g, 0, none⟩) (n + m) cap) (n + m) (xs ++ news) → Below base w w' → wpList P ops Q rest (a.put o.dst (.slice (some ⟨g, 0, none⟩) (n + m) cap)) w') : wpList P ops Q (o :: rest) a w := by
  refine wpList_wanted hgd fun K hK => ?_
  rcases A with _ | ad
  · obtain ⟨rfl, rfl⟩ := hA rfl
    have hn : news = [] := List.eq_nil_of_length_eq_zero (by omega)
    subst hn
    have hrun := run_append_owned_none (P := P) (w := w) base t o.type e i size ht hi _ n xs hown
    unfold Oper.wp
    simp [execOp, ho, resolve, invoke, builtin, hs, hx, hrun, Result.andThen]
    exact hK _ _ (h g0 c0 w (by simpa using hown) (Below.refl _ _))
  · refine wp_append_own w s x t ho base e i z size bytes ht hi hz hsize hby hzs hsz _ n xs hs hown ad m c news hx hl (hnews ad rfl) h1 h63 hbytes hbase ?_
    intro v' w' hown' hg hnil
    obtain ⟨g, cap, rfl, _, _⟩ := own_some hown' (fun e => by have := (hnil.1 e).1; cases this)
    exact hK _ _ (h g cap w' hown' (Below.grown (Below.refl _ w) hg hbase (fun k hk => (hown.lt k hk).1)))

def PX.shift (t : Nat) (x : PX) : PX := ⟨x.d.shift t, x.g, x.cap⟩
theorem PX.shift_owns {W : World} {x : PX} (t : Nat) (h : x.Owns W) : (x.shift t).Owns W := h
/-- The row of the second part's pieces when j of them have been shifted. -/
def shiftRow (t : Nat) (ys : List PX) (j : Nat) : List PX := (ys.take j).map (PX.shift t) ++ ys.drop j
theorem shiftRow_zero (t : Nat) (ys : List PX) : shiftRow t ys 0 = ys := by simp [shiftRow]
theorem shiftRow_all (t : Nat) (ys : List PX) (j : Nat) (h : ys.length ≤ j) : shiftRow t ys j = ys.map (PX.shift t) := by simp [shiftRow, List.take_of_length_le h, List.drop_eq_nil_of_le h]
theorem shiftRow_at {t : Nat} {ys : List PX} {j : Nat} {y : PX} (h : ys[j]? = some y) : (shiftRow t ys j)[j]? = some y := by
  have hl := (List.getElem?_eq_some_iff.1 h).1
  unfold shiftRow
  rw [List.getElem?_append_right (by simp; omega)]
  simp [List.length_take, Nat.min_eq_left (Nat.le_of_lt hl), h]

theorem flat_set (pre : List PX) (y y' : PX) (post : List PX) (u : Value) (hy : y'.cells = y.cells.set 0 u) :
    ((pre ++ y :: post).flatMap PX.cells).set (pre.length * 3) u = (pre ++ y' :: post).flatMap PX.cells := by
  have hl : (pre.flatMap PX.cells).length = pre.length * 3 := by
    induction pre with
    | nil => rfl
    | cons a l ih => rw [List.flatMap_cons, List.length_append, ih, List.length_cons]; simp [PX.cells]; omega
  rw [List.flatMap_append, List.flatMap_append, List.flatMap_cons, List.flatMap_cons, List.set_append_right _ _ (by omega), hl, Nat.sub_self, hy]
  congr 1

theorem shiftRow_set {t : Nat} {ys : List PX} {j : Nat} {y : PX} (h : ys[j]? = some y) :
    ((shiftRow t ys j).flatMap PX.cells).set (j * 3) (.int .i64 ((y.d.at_ + t : Nat) : Int)) = (shiftRow t ys (j + 1)).flatMap PX.cells := by
  have hl := (List.getElem?_eq_some_iff.1 h).1
  have hy := (List.getElem?_eq_some_iff.1 h).2
  have e1 : shiftRow t ys j = (ys.take j).map (PX.shift t) ++ y :: ys.drop (j + 1) := by
    unfold shiftRow
    rw [List.drop_eq_getElem_cons hl, hy]
  have e2 : shiftRow t ys (j + 1) = (ys.take j).map (PX.shift t) ++ y.shift t :: ys.drop (j + 1) := by
    unfold shiftRow
    rw [List.take_succ_eq_append_getElem hl, hy, List.map_append, List.map_cons, List.map_nil, List.append_assoc]
    rfl
  have hlen : ((ys.take j).map (PX.shift t)).length = j := by rw [List.length_map, List.length_take]; omega
  rw [e1, e2]
  have := flat_set ((ys.take j).map (PX.shift t)) y (y.shift t) (ys.drop (j + 1)) (.int .i64 ((y.d.at_ + t : Nat) : Int)) rfl
  rw [hlen] at this
  exact this

theorem pcs_at : ∀ (f a : Nat) (zs : List Int) (d : PieceD), d ∈ pcs f a zs → d.at_ ≤ a + zs.length
  | 0, _, _, d, h => by simp [pcs] at h
  | _ + 1, _, [], d, h => by simp [pcs] at h
  | f + 1, a, c :: rest, d, h => by
    rw [pcs_succ] at h
    rcases List.mem_cons.1 h with rfl | h
    · simp
    · have := pcs_at f _ _ d h
      simp only [List.length_drop, List.length_cons] at this ⊢
      omega

/-- All but the block that B leads to. -/
def Zx (B : Option Addr) (k : Nat) (_ : Obj) : Prop := B ≠ some ⟨k, 0, none⟩

theorem own_kept {A C : World} {base e size n c : Nat} {B B' : Option Addr} {xs : List Value} (h : A.ownsRow base e size (.slice B n c) n xs) (hk : Kept (Zx B') A C) (hz : ∀ g, B = some ⟨g, 0, none⟩ → B' ≠ some ⟨g, 0, none⟩) : C.ownsRow base e size (.slice B n c) n xs := by
  refine ⟨h.1, h.2.imp id ?_⟩
  rintro ⟨g, cap, cur, hv, hg, hh, r⟩
  refine ⟨g, cap, cur, hv, hg, hk.same _ _ hh ?_, r⟩
  injection hv with hv
  exact hz g hv

theorem own_lt {A : World} {base e size n c g : Nat} {xs : List Value} (h : A.ownsRow base e size (.slice (some ⟨g, 0, none⟩) n c) n xs) : base ≤ g ∧ g < A.heap.size := h.lt g rfl

theorem rpieces_src (B B' : Option Addr) (k c c' base base' : Nat) (xs ys : List PX) (w : World) (hk : xs.length = k) (hk' : ys.length = k) (hm : k ≤ 5000) (hxy : xs.map PX.d = ys.map PX.d)
    (h1 : w.ownsRow base 46 3 (.slice B k c) k (xs.flatMap PX.cells)) (h1' : ∀ x ∈ xs, x.Owns w) (h2 : w.ownsRow base' 46 3 (.slice B' k c') k (ys.flatMap PX.cells)) (h2' : ∀ y ∈ ys, y.Owns w) (hb : ∀ x ∈ xs, ∀ z ∈ x.d.bytes, 0 ≤ z ∧ z ≤ 255) :
    Calls Try.prog 24 #[.slice B k c, .slice B' k c'] w fun e w' => e = .returned (.bool true) ∧ Ext w w' := by
  rcases Nat.eq_zero_or_pos k with h0 | h0
  · subst h0; exact rpieces_nil w B B' c c'
  · obtain ⟨g, cc, e1, _, _⟩ := h1.form h0
    obtain ⟨g', cc', e2, _, _⟩ := h2.form h0
    injection e1 with e1 _ e1'
    injection e2 with e2 _ e2'
    subst e1 e1' e2 e2'
    exact rpieces_true g g' k _ _ base base' xs ys w hk hm hxy ⟨by rw [hk]; exact h1, h1'⟩ ⟨by rw [hk']; exact h2, h2'⟩ hb

theorem rrecs_src (B B' : Option Addr) (k c c' base base' : Nat) (rs : List RecD) (w : World) (hk : rs.length = k) (hm : k ≤ 10000) (hi : ∀ r ∈ rs, r.inside = true)
    (h1 : w.ownsRow base 34 8 (.slice B k c) k (rs.flatMap RecD.cells)) (h2 : w.ownsRow base' 34 8 (.slice B' k c') k (rs.flatMap RecD.cells)) :
    Calls Try.prog 25 #[.slice B k c, .slice B' k c'] w fun e w' => e = .returned (.bool true) ∧ Ext w w' := by
  rcases Nat.eq_zero_or_pos k with h0 | h0
  · subst h0; exact rrecs_nil w B B' c c'
  · obtain ⟨g, cc, e1, _, _⟩ := h1.form h0
    obtain ⟨g', cc', e2, _, _⟩ := h2.form h0
    injection e1 with e1 _ e1'
    injection e2 with e2 _ e2'
    subst e1 e1' e2 e2'
    exact rrecs_true g g' k _ _ base base' rs w hk hm hi (by unfold RowOf; rw [hk]; exact h1) (by unfold RowOf; rw [hk]; exact h2)

theorem src_of_own {W : World} {base g n c : Nat} {zs : List Int} (h : W.ownsRow base 5 1 (.slice (some ⟨g, 0, none⟩) n c) n (zs.map (Value.int .u8))) (hb : ∀ x ∈ zs, 0 ≤ x ∧ x ≤ 255) : Src W (some ⟨g, 0, none⟩) n c zs := by
  obtain ⟨h1, h2, _, h4⟩ := row_of_own (h.mono (Nat.zero_le _)) hb
  exact ⟨h4, h2, (fun h => by cases h), (fun _ => ⟨g, 0, rfl, h1⟩), hb⟩

theorem flat_one (xs : List PX) : ∀ u ∈ xs.flatMap PX.cells, u.oneCell' = true := by
  intro u hu
  obtain ⟨x, _, hx⟩ := List.mem_flatMap.1 hu
  exact x.oneCells u hx
theorem flat_one' (rs : List RecD) : ∀ u ∈ rs.flatMap RecD.cells, u.oneCell' = true := by
  intro u hu
  obtain ⟨x, _, hx⟩ := List.mem_flatMap.1 hu
  exact x.oneCells u hx
theorem map_one (zs : List Int) : ∀ u ∈ zs.map (Value.int .u8), u.oneCell' = true := by
  intro u hu
  obtain ⟨x, _, rfl⟩ := List.mem_map.1 hu
  rfl

end Go.Proofs.Ytcbneobdelbhlaa
