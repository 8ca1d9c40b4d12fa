/-
  Plain laws of pieces: what SplitParts asks.
-/
import Derived.Test.YtcbneobdelbhlaaSn
namespace Go.Proofs.Ytcbneobdelbhlaa
open Go.RowKit Go.Shelf

def PieceD.shift (t : Nat) (d : PieceD) : PieceD := ⟨d.at_ + t, d.bytes, d.cut⟩

theorem pcs_shift : ∀ (f a t : Nat) (zs : List Int), pcs f (a + t) zs = (pcs f a zs).map (PieceD.shift t)
  | 0, _, _, _ => rfl
  | _ + 1, _, _, [] => rfl
  | f + 1, a, t, c :: rest => by
    rw [pcs_succ, pcs_succ, List.map_cons, ← pcs_shift f _ t]
    congr 2
    omega

theorem pieces_append : ∀ (n s : Nat) (za zb : List Int), za.length ≤ n → (∀ x ∈ za, 0 ≤ x) → (∀ d ∈ (pieces' s za).getLast?, d.cut = false) → pieces' s (za ++ zb) = pieces' s za ++ pieces' (s + za.length) zb
  | _, s, [], zb, _, _, _ => by simp [pieces'_nil]
  | 0, _, c :: rest, _, h, _, _ => by simp at h
  | n + 1, s, c :: rest, zb, h, hb, hlast => by
    rw [pieces'_cons] at hlast ⊢
    rw [List.cons_append, pieces'_cons]
    have hc : c.toNat ≤ rest.length := by
      rcases Nat.lt_or_ge rest.length c.toNat with hlt | hle
      · exfalso
        have e : rest.drop c.toNat = [] := List.drop_eq_nil_of_le (by omega)
        rw [e, pieces'_nil] at hlast
        have := hlast ⟨s, rest.take c.toNat, decide (rest.length < c.toNat)⟩ (by simp)
        simp at this
        omega
      · exact hle
    have ih := pieces_append n (s + 1 + min c.toNat rest.length) (rest.drop c.toNat) zb (by simp at h ⊢; omega) (fun x hx => hb x (List.mem_cons_of_mem _ (List.mem_of_mem_drop hx))) (by
      intro d hd
      refine hlast d ?_
      rw [Option.mem_def] at hd ⊢
      rw [List.getLast?_cons, hd]
      rfl)
    rw [Nat.min_eq_left hc] at ih ⊢
    rw [List.take_append_of_le_length hc, List.drop_append_of_le_length hc, List.length_append, Nat.min_eq_left (by omega), ih, List.cons_append]
    congr 2
    · have : ¬ rest.length < c.toNat := by omega
      have h2 : ¬ rest.length + zb.length < c.toNat := by omega
      simp [this, h2]
    · congr 1
      simp only [List.length_drop, List.length_cons]
      omega

/-- The pieces of two parts. -/
theorem pieces_parts (za zb : List Int) (hb : ∀ x ∈ za, 0 ≤ x) (hlast : ∀ d ∈ (pieces za).getLast?, d.cut = false) : pieces (za ++ zb) = pieces za ++ (pieces zb).map (PieceD.shift za.length) := by
  have h := pieces_append za.length 0 za zb (Nat.le_refl _) hb hlast
  rw [pieces_eq, h, Nat.zero_add, pieces_eq]
  congr 1
  have := pcs_shift zb.length 0 za.length zb
  rw [Nat.zero_add] at this
  exact this

theorem recsOf_append (l m : List PieceD) : recsOf (l ++ m) = recsOf l ++ recsOf m := List.filterMap_append
theorem recsOf_shift (t : Nat) (l : List PieceD) : recsOf (l.map (PieceD.shift t)) = recsOf l := by
  unfold recsOf
  rw [List.filterMap_map]
  rfl

theorem recs_parts (za zb : List Int) (hb : ∀ x ∈ za, 0 ≤ x) (hlast : ∀ d ∈ (pieces za).getLast?, d.cut = false) : recsD (za ++ zb) = recsD za ++ recsD zb := by
  unfold recsD
  rw [pieces_parts za zb hb hlast, recsOf_append, recsOf_shift]

end Go.Proofs.Ytcbneobdelbhlaa
