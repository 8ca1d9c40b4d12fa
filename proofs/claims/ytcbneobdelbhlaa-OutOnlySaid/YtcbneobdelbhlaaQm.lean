/-
  A region that draws its order, whose operations read what was there when it began, and whose callees make memory of their own at most: one walk in the order of the text, in 'whatever world has w at its bottom' (mix w x).
-/
import Derived.Test.YtcbneobdelbhlaaRg
import Derived.Deep.Quiet
import Derived.Deep.QuietTactic
import Derived.BigQuiet
namespace Go.Proofs.Ytcbneobdelbhlaa
open Go Go.RowKit

/-- The world whose bottom is w's heap and whose top is x's. -/
def mix (w x : World) : World := { heap := w.heap ++ x.heap.extract w.heap.size x.heap.size, tape := w.tape, drawn := x.drawn, os := w.os, output := w.output }

theorem mix_heap (w x : World) (b : Nat) (h : b < w.heap.size) : (mix w x).heap[b]? = w.heap[b]? := by
  unfold mix
  rw [Array.getElem?_append, if_pos h]

theorem mix_size (w x : World) : w.heap.size ≤ (mix w x).heap.size := by
  unfold mix
  simp

theorem mix_below (w x : World) : Below w.heap.size w (mix w x) := ⟨rfl, rfl, rfl, mix_size w x, fun k hk => mix_heap w x k hk⟩

theorem mix_of_below {w w' : World} (h : Below w.heap.size w w') : w' = mix w w' := by
  have e : w'.heap = w.heap ++ w'.heap.extract w.heap.size w'.heap.size := by
    apply Array.ext_getElem?
    intro i
    rw [Array.getElem?_append]
    by_cases hi : i < w.heap.size
    · rw [if_pos hi, h.block i hi]
    · rw [if_neg hi, Array.getElem?_extract]
      have hs := h.size
      by_cases h2 : i - w.heap.size < min w'.heap.size w'.heap.size - w.heap.size
      · rw [if_pos h2]; congr 1; omega
      · rw [if_neg h2, Array.getElem?_eq_none (by omega)]
  obtain ⟨h1, h2, h3, h4, h5⟩ := w'
  have a1 := h.os
  have a2 := h.tape
  have a3 := h.output
  simp only at a1 a2 a3 e
  unfold mix
  simp only [World.mk.injEq]
  exact ⟨e, a2, trivial, a1, a3⟩

/-- What a cell that was not there reads as. -/
def mixRest (w x : World) (a : Addr) : Option Value := (mix w x).cell? a
@[go_sem] theorem mix_cell (w x : World) (a : Addr) : (mix w x).cell? a = (w.cell? a).or (mixRest w x a) := by
  cases h : w.cell? a with
  | none => rfl
  | some v =>
    obtain ⟨o, ho, _⟩ := cells_of_cell h
    rw [World.cell?_of_block (mix_heap w x a.block (heap_lt ho)), h]
    rfl

theorem wp_region_mix {P : Program} {id : Nat} {Q : Exit → Act → World → Prop} {a : Act} {w : World} {l : List Oper} (hm : P.follows .mixedOrders = true) (hB : Region.lexB .any l.toArray = true)
    (h : wpQuiet P l.toArray (fun w' => ∃ x, w' = mix w x) (fun a' => ∀ w', (∃ x, w' = mix w x) → Q .normal a' w') l a) : (Code.region id l.toArray true).wp P Q a w :=
  wp_region_quiet (C := fun w' => ∃ x, w' = mix w x) hm hB ⟨_, mix_of_below ((Below.refl w.heap.size w).drew)⟩ (by simpa using h)

/-- A callee that makes memory at most, met in such a world. -/
theorem Calls.mix_of {P : Program} {f : FuncId} {args : Array Value} {w x : World} {v : Value}
    (h : Calls P f args (mix w x) fun e w' => e = .returned v ∧ Below (mix w x).heap.size (mix w x) w') : Calls P f args (mix w x) fun e w'' => e = .returned v ∧ ∃ x', w'' = mix w x' :=
  h.mono fun _ w' ⟨he, hb⟩ => ⟨he, w', mix_of_below ((mix_below w x).trans (hb.mono (mix_size w x)))⟩
/-- .. one that leaves the world alone. -/
theorem Calls.mix_same {P : Program} {f : FuncId} {args : Array Value} {w x : World} {v : Value}
    (h : Calls P f args (mix w x) fun e w' => e = .returned v ∧ mix w x = w') : Calls P f args (mix w x) fun e w'' => e = .returned v ∧ ∃ x', w'' = mix w x' :=
  h.mono fun _ _ ⟨he, hw⟩ => ⟨he, x, hw.symm⟩

end Go.Proofs.Ytcbneobdelbhlaa
