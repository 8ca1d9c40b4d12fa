/-
  Walks of package record: the first region of told's iterator.
-/
import Derived.Test.YtcbneobdelbhlaaRb
namespace Go.Proofs.Ytcbneobdelbhlaa
open Go.RowKit Go.Shelf

set_option maxRecDepth 100000 in
set_option maxHeartbeats 1000000 in
theorem told_region_2 {ts src seq ek rs rt : Int} {re im : Nat} {x y : Int} (hp : Pt re im x y) (b l : Nat) (w : World) 
    (c0 : w.cell? ⟨b, 0, none⟩ = some (.int .u8 2)) (c1 : w.cell? ⟨b, 1, none⟩ = some (.int .i64 ts)) (c2 : w.cell? ⟨b, 2, none⟩ = some (.int .i64 src)) (c3 : w.cell? ⟨b, 3, none⟩ = some (.int .i64 seq))
    (c4 : w.cell? ⟨b, 4, none⟩ = some (.int .i64 ek)) (c5 : w.cell? ⟨b, 5, none⟩ = some (.complex .f64 re im)) (c6 : w.cell? ⟨b, 6, none⟩ = some (.int .i64 rs)) (c7 : w.cell? ⟨b, 7, none⟩ = some (.int .i64 rt)) (hb : b < w.heap.size)  :
    ∀ r rest : Code, Try.f94.body = some (.seq r rest) → r.wp Try.prog (ToldPost true 2 ts src seq ek rs rt x y re im w.heap.size (.pointer (some ⟨b, 0, none⟩)) l w) { tmps := #[.func (.yield l) #[] #[], .pointer (some ⟨b, 0, none⟩), undef, undef, undef, undef, undef, undef, undef, undef, undef, undef, undef, undef, undef, undef, undef], defers := [] } w := by
  have hne : b ≠ w.heap.size := by omega
  intro r rest hr
  cases hr
  go_region_held3 (fun w' => w'.cell? ⟨b, 0, none⟩ = some (.int .u8 2) ∧ w'.cell? ⟨b, 1, none⟩ = some (.int .i64 ts) ∧ w'.cell? ⟨b, 2, none⟩ = some (.int .i64 src) ∧ w'.cell? ⟨b, 3, none⟩ = some (.int .i64 seq) ∧ w'.cell? ⟨b, 4, none⟩ = some (.int .i64 ek) ∧ w'.cell? ⟨b, 5, none⟩ = some (.complex .f64 re im) ∧ w'.cell? ⟨b, 6, none⟩ = some (.int .i64 rs) ∧ w'.cell? ⟨b, 7, none⟩ = some (.int .i64 rt)) ((first | exact ⟨by assumption, by assumption, by assumption, by assumption, by assumption, by assumption, by assumption, by assumption⟩ | (refine ⟨?_, ?_, ?_, ?_, ?_, ?_, ?_, ?_⟩ <;> exact cell_later_alloc (by assumption) _) | (refine ⟨?_, ?_, ?_, ?_, ?_, ?_, ?_, ?_⟩ <;> exact cell_set3 hne (by assumption) _ _ _) | go_keep))
    (first
      | (go_at_call 95; refine (kinds_Pt hp _).mono ?_; rintro e w1 ⟨⟨v, rfl, ⟨br, bn, bm, rfl, z1, z2, z3, k1, k2, k3⟩⟩, hb1⟩; have q0 : w1.cell? ⟨b, 0, none⟩ = some (Value.int .u8 2) := cell_below hb1 (by first | exact c0 | exact cell_later_alloc (w := w.drew) c0 _); have q1 : w1.cell? ⟨b, 1, none⟩ = some (Value.int .i64 ts) := cell_below hb1 (by first | exact c1 | exact cell_later_alloc (w := w.drew) c1 _); have q2 : w1.cell? ⟨b, 2, none⟩ = some (Value.int .i64 src) := cell_below hb1 (by first | exact c2 | exact cell_later_alloc (w := w.drew) c2 _); have q3 : w1.cell? ⟨b, 3, none⟩ = some (Value.int .i64 seq) := cell_below hb1 (by first | exact c3 | exact cell_later_alloc (w := w.drew) c3 _); have q4 : w1.cell? ⟨b, 4, none⟩ = some (Value.int .i64 ek) := cell_below hb1 (by first | exact c4 | exact cell_later_alloc (w := w.drew) c4 _); have q5 : w1.cell? ⟨b, 5, none⟩ = some (Value.complex .f64 re im) := cell_below hb1 (by first | exact c5 | exact cell_later_alloc (w := w.drew) c5 _); have q6 : w1.cell? ⟨b, 6, none⟩ = some (Value.int .i64 rs) := cell_below hb1 (by first | exact c6 | exact cell_later_alloc (w := w.drew) c6 _); have q7 : w1.cell? ⟨b, 7, none⟩ = some (Value.int .i64 rt) := cell_below hb1 (by first | exact c7 | exact cell_later_alloc (w := w.drew) c7 _); have lk := lookK _ bm 2 _ _ k1; simp only [pickV, show ¬ ((2 : Int) = 1) by decide, if_false, if_true, or_true, decide_true] at lk; have lk2 := fun o => lookK (w1.alloc o) bm 2 _ _ ((Below.heap_alloc w1 o bm (heap_lt k1)).trans k1); simp only [pickV, show ¬ ((2 : Int) = 1) by decide, if_false, if_true, or_true, decide_true] at lk2; obtain ⟨hc1, hf1⟩ := bcell hb1; have hB := Lib.hid hb1; have K1 := Lib.hid k1; have K2 := Lib.hid k2; have K3 := Lib.hid k3; clear hb1 k1 k2 k3))
  all_goals clear lk lk2
  all_goals have hs := hB.out.size
  all_goals simp only [World.size_alloc, World.size_drew] at hs z1 z2 z3
  all_goals first
    | exact ⟨rfl, bel_a hB.out,  _, _, _, _, _, _, _, _, _, br, bn, rfl, (fun h => by cases h), (fun _ => ⟨_, rfl, by omega, by simp [go_sem], by simp [go_sem], by simp [go_sem]⟩), heap_later K2.out _, heap_later K3.out _⟩
    | exact ⟨rfl, bel_b hB.out,  _, _, _, _, _, _, _, _, _, br, bn, rfl, (fun h => by cases h), (fun _ => ⟨_, rfl, by omega, by simp [go_sem, hc1], by simp [go_sem, hc1], by simp [go_sem, hc1]⟩), heap_set3 (by omega) K2.out _ _ _, heap_set3 (by omega) K3.out _ _ _⟩


end Go.Proofs.Ytcbneobdelbhlaa
