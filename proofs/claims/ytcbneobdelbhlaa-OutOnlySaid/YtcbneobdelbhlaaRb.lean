/-
  Walks of package record: told's iterator.
-/
import Derived.Test.YtcbneobdelbhlaaRa
import Derived.Deep.RegionHeld3
import Derived.StillTactics
namespace Go.Proofs.Ytcbneobdelbhlaa
open Go.RowKit Go.Shelf
attribute [local go_sem] Oper.semAt_some

theorem cell_later_alloc {w : World} {a : Addr} {v : Value} (h : w.cell? a = some v) (o : Obj) : (w.alloc o).cell? a = some v := by
  obtain ⟨o', ho, _⟩ := cells_of_cell h
  rw [World.cell?_of_block (Below.heap_alloc w o a.block (heap_lt ho)), h]

theorem cell_below {W w1 : World} {a : Addr} {v : Value} (hb : Below W.heap.size W w1) (h : W.cell? a = some v) : w1.cell? a = some v := by
  obtain ⟨o', ho, _⟩ := cells_of_cell h
  rw [hb.cell (heap_lt ho), h]

theorem cell_set3 {w : World} {a : Addr} {v : Value} {k : Nat} (hne : a.block ≠ k) (h : w.cell? a = some v) (u0 u1 u2 : Value) : (((w.setCell ⟨k, 0, none⟩ u0).setCell ⟨k, 1, none⟩ u1).setCell ⟨k, 2, none⟩ u2).cell? a = some v := by
  rw [World.cell?_of_block (Below.heap_setCell _ ⟨k, 2, none⟩ u2 a.block hne), World.cell?_of_block (Below.heap_setCell _ ⟨k, 1, none⟩ u1 a.block hne), World.cell?_of_block (Below.heap_setCell _ ⟨k, 0, none⟩ u0 a.block hne), h]

theorem heap_later {w : World} {k : Nat} {o : Obj} (h : w.heap[k]? = some o) (o' : Obj) : (w.alloc o').heap[k]? = some o := (Below.heap_alloc w o' k (heap_lt h)).trans h
theorem heap_set3 {w : World} {j k : Nat} {o : Obj} (hne : j ≠ k) (h : w.heap[j]? = some o) (u0 u1 u2 : Value) : (((w.setCell ⟨k, 0, none⟩ u0).setCell ⟨k, 1, none⟩ u1).setCell ⟨k, 2, none⟩ u2).heap[j]? = some o := by
  rw [Below.heap_setCell _ ⟨k, 2, none⟩ u2 j hne, Below.heap_setCell _ ⟨k, 1, none⟩ u1 j hne, Below.heap_setCell _ ⟨k, 0, none⟩ u0 j hne, h]

theorem bel_a {w w1 : World} {o : Obj} (h : Below w.drew.heap.size w.drew w1) : Below w.heap.size w (w1.alloc o) :=
  ((Below.refl _ w).drew.trans h).alloc h.size o
theorem bel_b {w w1 : World} {o : Obj} (h : Below (w.drew.alloc o).heap.size (w.drew.alloc o) w1) {u0 u1 u2 : Value} : Below w.heap.size w (((w1.setCell ⟨w.heap.size, 0, none⟩ u0).setCell ⟨w.heap.size, 1, none⟩ u1).setCell ⟨w.heap.size, 2, none⟩ u2) :=
  (((((Below.refl _ w).drew.alloc (Nat.le_refl _) o).trans (h.mono (by simp))).setCell (p := ⟨w.heap.size, 0, none⟩) (Nat.le_refl _) u0).setCell (p := ⟨w.heap.size, 1, none⟩) (Nat.le_refl _) u1).setCell (p := ⟨w.heap.size, 2, none⟩) (Nat.le_refl _) u2

/-- A new box of three cells. -/
structure Box3 (n : Nat) (v0 v1 v2 : Value) (v : Value) (w : World) : Prop where
  is : ∃ b : Nat, v = .pointer (some ⟨b, 0, none⟩) ∧ n ≤ b ∧ w.cell? ⟨b, 0, none⟩ = some v0 ∧ w.cell? ⟨b, 1, none⟩ = some v1 ∧ w.cell? ⟨b, 2, none⟩ = some v2

def ToldPost (ok : Bool) (kd ts src seq ek rs rt x y : Int) (re im : Nat) (n : Nat) (v1 : Value) (l : Nat) (w0 : World) (e : Exit) (a : Act) (w : World) : Prop :=
  e = .normal ∧ Below n w0 w ∧ ∃ (u3 u5 u6 u7 u8 u9 u10 u11 u12 : Value) (br bn : Nat),
    Fr a #[.func (.yield l) #[] #[], v1, undef, u3, .bool ok, u5, u6, u7, u8, u9, u10, u11, u12, undef, undef, undef, undef] ∧
    (kd = 1 → Box3 n (.int .i64 src) (.int .i64 ts) (.func (.func 111) #[] #[.pointer (some ⟨br, 0, none⟩)]) u3 w) ∧
    (kd = 2 → Box3 n (.int .i64 rs) (.int .i64 rt) (.func (.func 112) #[] #[.pointer (some ⟨bn, 0, none⟩), .pointer (some ⟨br, 0, none⟩)]) u3 w) ∧
    w.heap[br]? = some (.cells #[.int .u8 kd, .int .i64 ts, .int .i64 src, .int .i64 seq, .int .i64 ek, .complex .f64 re im, .int .i64 rs, .int .i64 rt] 34 (0, 0)) ∧ w.heap[bn]? = some (.cells #[.bool (zeroE ts src seq ek x y)] 4 (0, 0))

end Go.Proofs.Ytcbneobdelbhlaa
