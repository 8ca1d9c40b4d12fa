/-
  wire.Take and wire.Put, of all bytes, of all records whose points are whole.
-/
import Derived.Test.YtcbneobdelbhlaaWl
import Derived.Test.YtcbneobdelbhlaaWm
import Derived.Test.YtcbneobdelbhlaaWn
import Derived.Test.YtcbneobdelbhlaaWg
namespace Go.Proofs.Ytcbneobdelbhlaa
open Go.RowKit Go.Shelf

theorem widths1 (w : World) : Calls Try.prog 41 #[.int .u8 1] w fun e w' => e = .returned (.slice (some ⟨w.heap.size, 0, none⟩) ([6, 1, 3, 1, 4, 4] : List Nat).length ([6, 1, 3, 1, 4, 4] : List Nat).length) ∧ w.alloc (.cells (([6, 1, 3, 1, 4, 4] : List Nat).map fun (k : Nat) => Value.int .i64 (k : Int)).toArray 3) = w' := widths_1 w
theorem widths2 (w : World) : Calls Try.prog 41 #[.int .u8 2] w fun e w' => e = .returned (.slice (some ⟨w.heap.size, 0, none⟩) ([1, 6] : List Nat).length ([1, 6] : List Nat).length) ∧ w.alloc (.cells (([1, 6] : List Nat).map fun (k : Nat) => Value.int .i64 (k : Int)).toArray 3) = w' := widths_2 w

theorem nums1 (l : List Int) : numsOf l [6, 1, 3, 1, 4, 4] 6 = [numOf (l.take 6), numOf ((l.drop 6).take 1), numOf ((l.drop 7).take 3), numOf ((l.drop 10).take 1), numOf ((l.drop 11).take 4), numOf ((l.drop 15).take 4)] := by
  simp [numsOf, List.range_succ, chunk, psum]
theorem nums2 (l : List Int) : numsOf l [1, 6] 2 = [numOf (l.take 1), numOf ((l.drop 1).take 6)] := by
  simp [numsOf, List.range_succ, chunk, psum]

theorem take_rec (b off cap : Nat) (zs : List Int) (w : World) (hrow : Row w b off zs) (hcap : zs.length ≤ cap) (hmax : cap ≤ maxLen) :
    Calls Try.prog 15 #[.slice (some ⟨b, off, none⟩) zs.length cap] w fun e w' => e = .returned (.tuple #[(takeD zs).1.val, .int .i64 (takeD zs).2]) ∧ Below w.heap.size w w' := by
  have hz : (RecD.zero).val = zrec := RecD.zero_val
  match zs, hrow, hcap with
  | [], _, _ =>
    simp only [takeD, hz, List.length_nil]
    exact wtake_empty _ cap w
  | k :: l, hrow, hcap =>
    have hk : w.cell? ⟨b, off, none⟩ = some (.int .u8 k) := by have := hrow.cell 0 (by simp); simpa using this
    have hr : Row w b (off + 1) l := ⟨fun i hi => by have := hrow.cell (i + 1) (by simp; omega); rw [Nat.add_assoc, Nat.add_comm 1 i, this]; simp, fun x hx => hrow.byte x (List.mem_cons_of_mem _ hx)⟩
    have hlen : (k :: l).length = l.length + 1 := rfl
    rw [hlen] at hcap ⊢
    by_cases h1 : k = 1
    · by_cases c1 : l.length < 19
      · have e : takeD (k :: l) = (RecD.zero, 50) := by simp [takeD, c1, h1]
        rw [e, hz]
        subst h1
        exact wtake_short b off (l.length + 1) cap 1 20 w (by omega) hk (by omega) size_1
      by_cases c2 : 19 < l.length
      · have e : takeD (k :: l) = (RecD.zero, 11) := by simp [takeD, c1, c2, h1]
        rw [e, hz]
        subst h1
        exact wtake_long b off (l.length + 1) cap 1 20 w (by omega) hk (by omega) size_1
      have hl : l.length = 19 := by omega
      by_cases c3 : (eventOf l).inside = true
      · have hi := (RecD.inside_iff _).1 c3
        have H := wtake_one b off (l.length + 1) cap 6 k [6, 1, 3, 1, 4, 4] l w rfl rfl (by rw [hl]; rfl) (by decide) (by decide) (by decide) h1 rfl _ _ _ _ _ _ (fb (eventOf l).x) (fb (eventOf l).y) (nums1 l) hcap hmax hk hr
          (by rw [hl, h1]; exact size_1) (by rw [h1]; exact widths1) (fun w => make_in _ _ hi.1 hi.2 w) (eventOf l).right (fun w => recordRight_Pt (Pt_fb hi.1 hi.2) w)
        refine H.mono ?_
        rintro e w' ⟨rfl, hb⟩
        refine ⟨?_, hb⟩
        have e : takeD (k :: l) = if (eventOf l).right then (eventOf l, 0) else (RecD.zero, 11) := by simp only [takeD, if_pos h1, if_neg c1, if_neg c2, c3, Bool.true_and]
        rw [e]
        cases (eventOf l).right
        · simp [hz]
        · rfl
      · have hi : ¬ ((eventOf l).x.natAbs ≤ 1048576 ∧ (eventOf l).y.natAbs ≤ 1048576) := fun h => c3 ((RecD.inside_iff _).2 h)
        have H := wtake_one_out b off (l.length + 1) cap 6 k [6, 1, 3, 1, 4, 4] l w rfl rfl (by rw [hl]; rfl) (by decide) (by decide) (by decide) h1 rfl _ _ _ _ _ _ (nums1 l) hcap hmax hk hr
          (by rw [hl, h1]; exact size_1) (by rw [h1]; exact widths1) (fun w => make_out _ _ hi w)
        have e : takeD (k :: l) = (RecD.zero, 11) := by
          have c3' : (eventOf l).inside = false := by simpa using c3
          simp only [takeD, if_pos h1, if_neg c1, if_neg c2, c3', Bool.false_and, Bool.false_eq_true, if_false]
        rw [e, hz]
        exact H
    · by_cases h2 : k = 2
      · by_cases c1 : l.length < 7
        · have e : takeD (k :: l) = (RecD.zero, 50) := by simp [takeD, c1, h2]
          rw [e, hz]
          subst h2
          exact wtake_short b off (l.length + 1) cap 2 8 w (by omega) hk (by omega) size_2
        by_cases c2 : 7 < l.length
        · have e : takeD (k :: l) = (RecD.zero, 11) := by simp [takeD, c1, c2, h2]
          rw [e, hz]
          subst h2
          exact wtake_long b off (l.length + 1) cap 2 8 w (by omega) hk (by omega) size_2
        have hl : l.length = 7 := by omega
        have H := wtake_two b off (l.length + 1) cap 2 k [1, 6] l w rfl rfl (by rw [hl]; rfl) (by decide) (by decide) (by decide) h2 _ _ (nums2 l) hcap hmax hk hr
          (by rw [hl, h2]; exact size_2) (by rw [h2]; exact widths2) (markOf l).right (fun w => recordRight_Pt (x := 0) (y := 0) ⟨FI_0, FI_0, by decide, by decide⟩ w)
        refine H.mono ?_
        rintro e w' ⟨rfl, hb⟩
        refine ⟨?_, hb⟩
        have e : takeD (k :: l) = if (markOf l).right then (markOf l, 0) else (RecD.zero, 11) := by simp only [takeD, if_neg h1, if_pos h2, if_neg c1, if_neg c2]
        rw [e]
        have h0 : fb 0 = 0 := by kernel_rfl
        cases (markOf l).right
        · simp [hz]
        · simp [RecD.val, markOf, h0]
      · have e : takeD (k :: l) = (RecD.zero, 11) := by simp [takeD, h1, h2]
        rw [e, hz]
        exact wtake_long b off (l.length + 1) cap k 0 w (by omega) hk (.inl rfl) (size_0 k h1 h2)

theorem right_kd {r : RecD} (h : r.right = true) : r.kd = 1 ∨ r.kd = 2 := by
  by_cases h1 : r.kd = 1
  · exact .inl h1
  · by_cases h2 : r.kd = 2
    · exact .inr h2
    · simp [RecD.right, recR, h1, h2] at h

theorem put_rec (r : RecD) (hi : r.inside = true) (hr : r.right = true) (w : World) :
    Calls Try.prog 16 #[r.val] w fun e w' => ∃ v, e = .returned (.tuple #[v, .int .i64 0]) ∧ w'.ownsRow w.heap.size 5 1 v r.bytes.length (r.bytes.map (Value.int .u8)) ∧ Below w.heap.size w w' := by
  obtain ⟨hx, hy⟩ := (RecD.inside_iff _).1 hi
  have hp := Pt_fb hx hy
  have H43 : ∀ w, Calls Try.prog 43 #[r.val] w fun e w' => e = .returned (.bool true) ∧ Below w.heap.size w w' := fun w => by
    have := recordRight_Pt (kd := r.kd) (ts := r.ts) (src := r.src) (seq := r.seq) (ek := r.ek) (rs := r.rs) (rt := r.rt) hp w
    have e : recR r.kd r.ts r.src r.seq r.ek r.x r.y r.rs r.rt = true := hr
    rw [e] at this
    exact this
  rcases right_kd hr with h | h
  · have := wput_yes r.kd r.ts r.src r.seq r.ek r.rs r.rt (fb r.x) (fb r.y) [r.ts, r.src, r.seq, r.ek, r.x, r.y] [6, 1, 3, 1, 4, 4] rfl (by decide) (by decide) (by decide) H43 (by rw [h]; exact widths1) (by rw [h]; exact numbers_1 hp _ _ _ _ _ _) w
    have e : r.bytes = bytesUp r.kd [r.ts, r.src, r.seq, r.ek, r.x, r.y] [6, 1, 3, 1, 4, 4] ([6, 1, 3, 1, 4, 4] : List Nat).length := by simp [RecD.bytes, RecD.nums, h]
    rw [e]
    exact this
  · have := wput_yes r.kd r.ts r.src r.seq r.ek r.rs r.rt (fb r.x) (fb r.y) [r.rs, r.rt] [1, 6] rfl (by decide) (by decide) (by decide) H43 (by rw [h]; exact widths2) (numbers_2 _ _ _ _ _ _ _ _ _ (by omega)) w
    have e : r.bytes = bytesUp r.kd [r.rs, r.rt] [1, 6] ([1, 6] : List Nat).length := by simp [RecD.bytes, RecD.nums, h]
    rw [e]
    exact this

theorem put_no (r : RecD) (hi : r.inside = true) (hr : r.right = false) (w : World) :
    Calls Try.prog 16 #[r.val] w fun e w' => e = .returned (.tuple #[.slice none 0 0, .int .i64 2]) ∧ Below w.heap.size w w' := by
  obtain ⟨hx, hy⟩ := (RecD.inside_iff _).1 hi
  have hp := Pt_fb hx hy
  refine wput_no r.kd r.ts r.src r.seq r.ek r.rs r.rt (fb r.x) (fb r.y) (fun w => ?_) w
  have := recordRight_Pt (kd := r.kd) (ts := r.ts) (src := r.src) (seq := r.seq) (ek := r.ek) (rs := r.rs) (rt := r.rt) hp w
  have e : recR r.kd r.ts r.src r.seq r.ek r.x r.y r.rs r.rt = false := hr
  rw [e] at this
  exact this

theorem rright_rec (r : RecD) (hi : r.inside = true) (w : World) : Calls Try.prog 17 #[r.val] w fun e w' => e = .returned (.bool r.right) ∧ Below w.heap.size w w' := by
  obtain ⟨hx, hy⟩ := (RecD.inside_iff _).1 hi
  exact rrRight_Pt (Pt_fb hx hy) w

/-- The same records. -/
def RecD.same (r s : RecD) : Bool := (r.kd == s.kd) && decide (r.ts = s.ts ∧ r.src = s.src ∧ r.seq = s.seq ∧ r.ek = s.ek ∧ r.x = s.x ∧ r.y = s.y) && (r.rs == s.rs) && (r.rt == s.rt)
theorem RecD.same_self (r : RecD) : r.same r = true := by simp [RecD.same]

theorem rsame_rec (r s : RecD) (hr : r.inside = true) (hs : s.inside = true) (w : World) : Calls Try.prog 18 #[r.val, s.val] w fun e w' => e = .returned (.bool (r.same s)) ∧ Below w.heap.size w w' := by
  obtain ⟨hx, hy⟩ := (RecD.inside_iff _).1 hr
  obtain ⟨hu, hv⟩ := (RecD.inside_iff _).1 hs
  exact rrSame_core _ _ _ _ _ _ _ _ _ _ _ _ _ _ _ _ _ _ _ w (fun w => reventSame_Pt (Pt_fb hx hy) (Pt_fb hu hv) w)

end Go.Proofs.Ytcbneobdelbhlaa
