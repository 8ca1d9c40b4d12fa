/-
  What SplitParts wants besides: an append whose source may be nil; All and Recs of bytes that came in.
-/
import Derived.Test.YtcbneobdelbhlaaSq
namespace Go.Proofs.Ytcbneobdelbhlaa
open Go.RowKit Go.Shelf

theorem wpList_append_src {P : Program} {w : World} {ops : Array Oper} {rest : List Oper} {o : Oper} {a : Act} {Q : Exit → Act → World → Prop} (hgd : o.guard = none) (s x : Operand) (t : TypeId)
    (ho : o.op = .call { callee := .builtin .append, args := #[s, x], argTypes := #[t, t] })
    (base : Nat) (e : TypeId) (i : TypeInfo) (z : Value) (size bytes : Nat) (ht : P.underlying t = some (.slice e)) (hi : P.info? e = some i) (hz : i.zero = some z)
    (hsize : i.size = size) (hby : i.bytes = bytes) (hzs : z.cells.size = size) (hsz : 0 < size)
    (g0 c0 n : Nat) (xs : List Value) (hs : a.eval s = .slice (some ⟨g0, 0, none⟩) n c0) (hown : w.ownsRow base e size (.slice (some ⟨g0, 0, none⟩) n c0) n xs)
    (A : Option Addr) (m c : Nat) (news : List Value) (hx : a.eval x = .slice A m c) (hl : news.length = m * size) (hA : A = none → m = 0 ∧ c = 0) (hnews : ∀ ad, A = some ad → ∀ j u, news[j]? = some u → w.cell? (ad.add j) = some u) (h1 : ∀ u ∈ news, u.oneCell' = true)
    (h63 : n + m ≤ maxLen) (hbytes : (n + m) * bytes ≤ 140737488355328) (hbase : base ≤ w.heap.size)
    (h : ∀ g cap w', w'.ownsRow base e size (.slice (some ⟨g, 0, none⟩) (n + m) cap) (n + m) (xs ++ news) → Below base w w' → wpList P ops Q rest (a.put o.dst (.slice (some ⟨g, 0, none⟩) (n + m) cap)) w') : wpList P ops Q (o :: rest) a w := by
  rcases A with _ | ad
  · obtain ⟨rfl, rfl⟩ := hA rfl
    have hn : news = [] := List.eq_nil_of_length_eq_zero (by omega)
    subst hn
    refine wpList_append_own_none hgd s x t ho base e i size ht hi _ n xs hs hown hx ?_
    exact h g0 c0 w (by simpa using hown) (Below.refl _ _)
  · refine wpList_append_own w hgd s x t ho base e i z size bytes ht hi hz hsize hby hzs hsz _ n xs hs hown ad m c news hx hl (hnews ad rfl) h1 h63 hbytes hbase ?_
    intro v' w' hown' hg hnil
    obtain ⟨g, cap, rfl, _, _⟩ := own_some hown' (fun e => by have := (hnil.1 e).1; cases this)
    exact h g cap w' hown' (Below.grown (Below.refl _ w) hg hbase (fun k hk => (hown.lt k hk).1))

/-- Bytes that came in. -/
structure Src (w : World) (A : Option Addr) (n cap : Nat) (zs : List Int) : Prop where
  len : zs.length = n
  room : n ≤ cap
  nil : A = none → n = 0 ∧ cap = 0
  row : 0 < n → ∃ b off, A = some ⟨b, off, none⟩ ∧ Row w b off zs
  byte : ∀ x ∈ zs, 0 ≤ x ∧ x ≤ 255

theorem Src.ext {w w' : World} {A : Option Addr} {n cap : Nat} {zs : List Int} (h : Src w A n cap zs) (hE : Ext w w') : Src w' A n cap zs :=
  ⟨h.len, h.room, h.nil, fun h0 => by obtain ⟨b, off, h1, h2⟩ := h.row h0; exact ⟨b, off, h1, hE.row h2⟩, h.byte⟩

theorem Src.news {w : World} {A : Option Addr} {n cap : Nat} {zs : List Int} (h : Src w A n cap zs) : ∀ ad, A = some ad → ∀ j u, (zs.map (Value.int .u8))[j]? = some u → w.cell? (ad.add j) = some u := by
  intro ad hA j u hj
  have hl : j < zs.length := by have := (List.getElem?_eq_some_iff.1 hj).1; simpa using this
  have := h.len
  obtain ⟨b, off, h1, h2⟩ := h.row (by omega)
  rw [hA] at h1
  injection h1 with h1
  subst h1
  exact row_news h2 h.len j u hj

theorem own_form {W : World} {base e size n : Nat} {v : Value} {xs : List Value} (h : W.ownsRow base e size v n xs) : ∃ B c, v = .slice B n c ∧ (B = none → n = 0 ∧ c = 0) ∧ (∀ ad, B = some ad → ∃ g, ad = ⟨g, 0, none⟩ ∧ base ≤ g) := by
  rcases h.2 with ⟨rfl, rfl⟩ | ⟨g, cap, cur, rfl, hg, _⟩
  · exact ⟨none, 0, rfl, (fun _ => ⟨rfl, rfl⟩), (fun ad h => by cases h)⟩
  · exact ⟨some ⟨g, 0, none⟩, cap, rfl, (fun h => by cases h), (fun ad h => by cases h; exact ⟨g, rfl, hg⟩)⟩

theorem own_news {W : World} {base e size n c : Nat} {B : Option Addr} {xs : List Value} (h : W.ownsRow base e size (.slice B n c) n xs) : ∀ ad, B = some ad → ∀ j u, xs[j]? = some u → W.cell? (ad.add j) = some u := by
  intro ad hB j u hj
  subst hB
  obtain ⟨g, hg⟩ : ∃ g, ad = ⟨g, 0, none⟩ := by
    rcases h.2 with ⟨h, _⟩ | ⟨g, cap, cur, hv, _⟩
    · cases h
    · injection hv with hv; injection hv with hv; exact ⟨g, hv⟩
  subst hg
  have hl := (List.getElem?_eq_some_iff.1 hj).1
  have e : (⟨g, 0, none⟩ : Addr).add j = ⟨g, j, none⟩ := by unfold Addr.add; split <;> simp_all
  rw [e, h.cellAt j (by have := h.1; omega), hj]

theorem all_src (A : Option Addr) (n cap : Nat) (zs : List Int) (w : World) (h : Src w A n cap zs) (hm : n ≤ 5000) :
    Calls Try.prog 20 #[.slice A n cap] w fun e w' => ∃ (B : Option Addr) (k c : Nat) (xs : List PX), e = .returned (.slice B k c) ∧ (B = none → k = 0 ∧ c = 0) ∧ (∀ ad, B = some ad → ∃ g, ad = ⟨g, 0, none⟩ ∧ w.heap.size ≤ g) ∧ xs.length = k ∧
      w'.ownsRow w.heap.size 46 3 (.slice B k c) k (xs.flatMap PX.cells) ∧ (∀ x ∈ xs, x.Owns w') ∧ xs.map PX.d = pieces zs ∧ Ext w w' := by
  have fin : ∀ {zs : List Int}, (Calls Try.prog 20 #[.slice A n cap] w fun e w' => ∃ v, e = .returned v ∧ ∃ xs : List PX, w'.ownsRow w.heap.size 46 3 v xs.length (xs.flatMap PX.cells) ∧ (∀ x ∈ xs, x.Owns w') ∧ xs.map PX.d = pieces zs ∧ Ext w w') →
      Calls Try.prog 20 #[.slice A n cap] w fun e w' => ∃ (B : Option Addr) (k c : Nat) (xs : List PX), e = .returned (.slice B k c) ∧ (B = none → k = 0 ∧ c = 0) ∧ (∀ ad, B = some ad → ∃ g, ad = ⟨g, 0, none⟩ ∧ w.heap.size ≤ g) ∧ xs.length = k ∧
      w'.ownsRow w.heap.size 46 3 (.slice B k c) k (xs.flatMap PX.cells) ∧ (∀ x ∈ xs, x.Owns w') ∧ xs.map PX.d = pieces zs ∧ Ext w w' := by
    intro zs H
    refine H.mono ?_
    rintro e w' ⟨v, rfl, xs, h1, h2, h3, h4⟩
    obtain ⟨B, c, rfl, hB, hB2⟩ := own_form h1
    exact ⟨B, _, c, xs, rfl, hB, hB2, rfl, h1, h2, h3, h4⟩
  rcases Nat.eq_zero_or_pos n with h0 | h0
  · subst h0
    have e : zs = [] := List.eq_nil_of_length_eq_zero h.len
    subst e
    exact fin (all_empty A cap w)
  · obtain ⟨b, off, rfl, hr⟩ := h.row h0
    have hb : b < w.heap.size := by obtain ⟨o, ho, _⟩ := cells_of_cell (hr.cell 0 (by have := h.len; omega)); exact heap_lt ho
    exact fin (all_any b off n cap zs w h.len hm h.room hr hb)

theorem recs_src (A : Option Addr) (n cap : Nat) (zs : List Int) (w : World) (h : Src w A n cap zs) (hm : n ≤ 5000) :
    Calls Try.prog 23 #[.slice A n cap] w fun e w' => ∃ (B : Option Addr) (k c : Nat), e = .returned (.slice B k c) ∧ (B = none → k = 0 ∧ c = 0) ∧ (∀ ad, B = some ad → ∃ g, ad = ⟨g, 0, none⟩ ∧ w.heap.size ≤ g) ∧ (recsD zs).length = k ∧
      w'.ownsRow w.heap.size 34 8 (.slice B k c) k ((recsD zs).flatMap RecD.cells) ∧ Ext w w' := by
  have fin : ∀ {zs : List Int}, (Calls Try.prog 23 #[.slice A n cap] w fun e w' => ∃ v, e = .returned v ∧ w'.ownsRow w.heap.size 34 8 v (recsD zs).length ((recsD zs).flatMap RecD.cells) ∧ Ext w w') →
      Calls Try.prog 23 #[.slice A n cap] w fun e w' => ∃ (B : Option Addr) (k c : Nat), e = .returned (.slice B k c) ∧ (B = none → k = 0 ∧ c = 0) ∧ (∀ ad, B = some ad → ∃ g, ad = ⟨g, 0, none⟩ ∧ w.heap.size ≤ g) ∧ (recsD zs).length = k ∧
      w'.ownsRow w.heap.size 34 8 (.slice B k c) k ((recsD zs).flatMap RecD.cells) ∧ Ext w w' := by
    intro zs H
    refine H.mono ?_
    rintro e w' ⟨v, rfl, h1, h4⟩
    obtain ⟨B, c, rfl, hB, hB2⟩ := own_form h1
    exact ⟨B, _, c, rfl, hB, hB2, rfl, h1, h4⟩
  rcases Nat.eq_zero_or_pos n with h0 | h0
  · subst h0
    have e : zs = [] := List.eq_nil_of_length_eq_zero h.len
    subst e
    exact fin (recs_empty A cap w)
  · obtain ⟨b, off, rfl, hr⟩ := h.row h0
    have hb : b < w.heap.size := by obtain ⟨o, ho, _⟩ := cells_of_cell (hr.cell 0 (by have := h.len; omega)); exact heap_lt ho
    exact fin (recs_any b off n cap zs w h.len hm h.room hr hb)

theorem recsD_inside (zs : List Int) (hb : ∀ x ∈ zs, 0 ≤ x ∧ x ≤ 255) : ∀ r ∈ recsD zs, r.inside = true := by
  intro r hr
  unfold recsD recsOf at hr
  obtain ⟨d, hd, hr⟩ := List.mem_filterMap.1 hr
  unfold recOf? at hr
  split at hr
  · rename_i h0
    injection hr with hr
    subst hr
    unfold recOf at h0 ⊢
    split at h0
    · cases h0
    · rename_i hn
      rw [if_neg hn]
      exact (takeD_ok d.bytes (fun x hx => hb x (pcs_byte _ _ _ d hd x hx)) h0).2.1
  · cases hr

end Go.Proofs.Ytcbneobdelbhlaa
