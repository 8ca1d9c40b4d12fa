/-
  Package split: pieces as data; bytes.Clone.
-/
import Derived.Test.YtcbneobdelbhlaaWs
namespace Go.Proofs.Ytcbneobdelbhlaa
open Go.RowKit Go.Shelf

/-- A piece. -/
structure PieceD where
  at_ : Nat
  bytes : List Int
  cut : Bool

/-- The pieces of bytes that stand from 'at' on. -/
def pcs : Nat → Nat → List Int → List PieceD
  | 0, _, _ => []
  | _ + 1, _, [] => []
  | f + 1, a, c :: rest => ⟨a, rest.take c.toNat, decide (rest.length < c.toNat)⟩ :: pcs f (a + 1 + min c.toNat rest.length) (rest.drop c.toNat)
def pieces (zs : List Int) : List PieceD := pcs zs.length 0 zs

theorem pcs_fuel : ∀ (f g a : Nat) (zs : List Int), zs.length ≤ f → zs.length ≤ g → pcs f a zs = pcs g a zs
  | f, g, a, [], _, _ => by cases f <;> cases g <;> rfl
  | 0, _, _, c :: rest, h, _ => by simp at h
  | _, 0, _, c :: rest, _, h => by simp at h
  | f + 1, g + 1, a, c :: rest, hf, hg => by
    simp only [pcs]
    rw [pcs_fuel f g _ (rest.drop c.toNat) (by simp at hf ⊢; omega) (by simp at hg ⊢; omega)]

/-- The pieces from 'at' on, of what is left. -/
def pieces' (a : Nat) (zs : List Int) : List PieceD := pcs zs.length a zs
theorem pieces'_nil (a : Nat) : pieces' a [] = [] := rfl
theorem pieces'_cons (a : Nat) (c : Int) (rest : List Int) : pieces' a (c :: rest) = ⟨a, rest.take c.toNat, decide (rest.length < c.toNat)⟩ :: pieces' (a + 1 + min c.toNat rest.length) (rest.drop c.toNat) := by
  unfold pieces'
  simp only [List.length_cons, pcs]
  rw [pcs_fuel rest.length (rest.drop c.toNat).length _ _ (by simp) (Nat.le_refl _)]
theorem pieces_eq (zs : List Int) : pieces zs = pieces' 0 zs := rfl



theorem Row.alloc {w : World} {b off : Nat} {zs : List Int} (h : Row w b off zs) (o : Obj) : Row (w.alloc o) b off zs := ((Ext.refl w).alloc o).row h
theorem row_empty (w : World) (e : TypeId) (size : Nat) : (w.alloc (.cells #[] e)).ownsRow w.heap.size e size (.slice (some ⟨w.heap.size, 0, none⟩) 0 0) 0 [] :=
  ⟨by simp, .inr ⟨w.heap.size, 0, #[], rfl, Nat.le_refl _, World.alloc_heap_new _ _, Nat.le_refl _, by decide, by simp, by simp⟩⟩
theorem own_some {w : World} {base n size : Nat} {e : TypeId} {v : Value} {xs : List Value} (h : w.ownsRow base e size v n xs) (hv : v ≠ .slice none 0 0) : ∃ g cap, v = .slice (some ⟨g, 0, none⟩) n cap ∧ base ≤ g ∧ g < w.heap.size := by
  rcases h.2 with ⟨h, _⟩ | ⟨g, cap, cur, hv, hg, hh, _⟩
  · exact absurd h hv
  · exact ⟨g, cap, hv, hg, heap_lt hh⟩
theorem row_news {w : World} {b off n : Nat} {zs : List Int} (h : Row w b off zs) (_hn : zs.length = n) : ∀ j u, (zs.map (Value.int .u8))[j]? = some u → w.cell? ((⟨b, off, none⟩ : Addr).add j) = some u := by
  intro j u hj
  have hl : j < zs.length := by have := (List.getElem?_eq_some_iff.1 hj).1; simpa using this
  have e : (⟨b, off, none⟩ : Addr).add j = ⟨b, off + j, none⟩ := by unfold Addr.add; split <;> simp_all
  rw [e, h.cell j hl]
  simpa [List.getD_eq_getElem?_getD, List.getElem?_eq_getElem hl] using hj

set_option maxRecDepth 100000 in
theorem clone_any (b off cap : Nat) (zs : List Int) (w : World) (h : Row w b off zs) (hm : zs.length ≤ 1000000) :
    Calls Try.prog 80 #[.slice (some ⟨b, off, none⟩) zs.length cap] w fun e w' => ∃ g c, e = .returned (.slice (some ⟨g, 0, none⟩) zs.length c) ∧ w'.ownsRow w.heap.size 5 1 (.slice (some ⟨g, 0, none⟩) zs.length c) zs.length (zs.map (Value.int .u8)) ∧ Ext w w' := by
  obtain ⟨i0, hi, hz0, hz1, hz2⟩ := info_parts info5
  have HR := Lib.hid h
  clear h
  generalize hn : zs.length = n at *
  have HN := Lib.hid hn
  clear hn
  have he := fun w => Lib.run_eql_slice_nil (P := Try.prog) w 30 5 (some ⟨b, off, none⟩) n cap 0 0 und30
  simp only [Option.isNone_some] at he
  go_enter Try.func80, Try.ntmps80
  go_wp2_with (at_builtin; refine wpList_append_own _ rfl (.tmp 5) (.tmp 6) 30 (by rfl) w.heap.size 5 i0 (.int .u8 0) 1 1 und30 hi hz0 hz1 hz2 rfl (by omega) (.slice (some ⟨w.heap.size, 0, none⟩) 0 0) 0 [] (by rfl) (row_empty w 5 1) ⟨b, off, none⟩ n cap (zs.map (Value.int .u8)) (by rfl) (by simp [HN.out]) (row_news (HR.out.alloc _) HN.out) (by intro u hu; simp at hu; obtain ⟨_, _, rfl⟩ := hu; rfl) (by unfold maxLen; omega) (by omega) (by simp) ?_; intro v' w1 hown hgrow hnil; obtain ⟨g, c, rfl, hg, hlt⟩ := own_some hown (fun e => by have := hnil.1 e; simp at this); have X := Lib.hid (And.intro hown hgrow); clear hown hgrow hnil hg hlt)
  go_ret
  refine ⟨g, c, ?_, ?_, ?_⟩
  · simp
  · simpa using X.out.1
  · exact Below.grown ((Below.refl _ w).alloc (Nat.le_refl _) _) X.out.2 (by simp) (fun k hk => by simp [Value.ownBlock] at hk; omega)

end Go.Proofs.Ytcbneobdelbhlaa
