/-
  Plain laws: records as data; what Take tells of bytes; that these are the bytes that Put makes of it.
-/
import Derived.Test.YtcbneobdelbhlaaWq
import Derived.Test.YtcbneobdelbhlaaWi
namespace Go.Proofs.Ytcbneobdelbhlaa
open Go.RowKit

/-- A record whose point's parts are whole. -/
structure RecD where
  kd : Int
  ts : Int
  src : Int
  seq : Int
  ek : Int
  x : Int
  y : Int
  rs : Int
  rt : Int

namespace RecD
def val (r : RecD) : Value := .agg #[.int .u8 r.kd, .int .i64 r.ts, .int .i64 r.src, .int .i64 r.seq, .int .i64 r.ek, .complex .f64 (fb r.x) (fb r.y), .int .i64 r.rs, .int .i64 r.rt]
def zero : RecD := ⟨0, 0, 0, 0, 0, 0, 0, 0, 0⟩
theorem zero_val : zero.val = zrec := by
  have h : fb 0 = 0 := by kernel_rfl
  simp [val, zero, zrec, h]
def right (r : RecD) : Bool := recR r.kd r.ts r.src r.seq r.ek r.x r.y r.rs r.rt
def inside (r : RecD) : Bool := decide (r.x.natAbs ≤ 1048576) && decide (r.y.natAbs ≤ 1048576)
theorem inside_iff (r : RecD) : r.inside = true ↔ r.x.natAbs ≤ 1048576 ∧ r.y.natAbs ≤ 1048576 := by simp [inside]
def nums (r : RecD) : List Int := if r.kd = 1 then [r.ts, r.src, r.seq, r.ek, r.x, r.y] else [r.rs, r.rt]
def bytes (r : RecD) : List Int := bytesUp r.kd r.nums (if r.kd = 1 then [6, 1, 3, 1, 4, 4] else [1, 6]) (if r.kd = 1 then 6 else 2)
end RecD

def p32 (n : Int) : Int := IntKind.i32.wrap n

theorem byteAt_p32 (n s : Int) (hs : s ∈ shiftsOf 4) : byteAt (p32 n) s = byteAt n s := by
  have h4 : shiftsOf 4 = [24, 16, 8, 0] := by decide
  rw [h4] at hs
  obtain ⟨k, hk⟩ : ∃ k : Int, p32 n = n + 4294967296 * k := by
    refine ⟨(p32 n - n) / 4294967296, ?_⟩
    unfold p32 IntKind.wrap
    simp [IntKind.bits, IntKind.signed]
    split <;> omega
  rw [hk]
  unfold byteAt
  simp only [List.mem_cons, List.not_mem_nil, or_false] at hs
  rcases hs with rfl | rfl | rfl | rfl <;> simp <;> omega

theorem bytesOf_p32 (n : Int) : bytesOf (p32 n) 4 = bytesOf n 4 := List.map_congr_left fun s hs => byteAt_p32 n s hs

/-- The mark, the event that bytes behind the kind are of. -/
def markOf (l : List Int) : RecD := ⟨2, 0, 0, 0, 0, 0, 0, numOf (l.take 1), numOf ((l.drop 1).take 6)⟩
def eventOf (l : List Int) : RecD := ⟨1, numOf (l.take 6), numOf ((l.drop 6).take 1), numOf ((l.drop 7).take 3), numOf ((l.drop 10).take 1), p32 (numOf ((l.drop 11).take 4)), p32 (numOf ((l.drop 15).take 4)), 0, 0⟩

/-- What Take tells of bytes: the record, the error. -/
def takeD : List Int → RecD × Int
  | [] => (RecD.zero, 50)
  | k :: l =>
    if k = 1 then
      if l.length < 19 then (RecD.zero, 50)
      else if 19 < l.length then (RecD.zero, 11)
      else if (eventOf l).inside && (eventOf l).right then (eventOf l, 0) else (RecD.zero, 11)
    else if k = 2 then
      if l.length < 7 then (RecD.zero, 50)
      else if 7 < l.length then (RecD.zero, 11)
      else if (markOf l).right then (markOf l, 0) else (RecD.zero, 11)
    else (RecD.zero, 11)

theorem bytesOf_chunk (l : List Int) (h : ∀ x ∈ l, 0 ≤ x ∧ x ≤ 255) (s k : Nat) (hs : s + k ≤ l.length) : bytesOf (numOf ((l.drop s).take k)) k = (l.drop s).take k := by
  have := bytesOf_numOf ((l.drop s).take k) (fun x hx => h x (List.mem_of_mem_drop (List.mem_of_mem_take hx)))
  rwa [List.length_take, List.length_drop, Nat.min_eq_left (by omega)] at this

theorem markOf_bytes (l : List Int) (h : ∀ x ∈ l, 0 ≤ x ∧ x ≤ 255) (hl : l.length = 7) : (markOf l).bytes = 2 :: l := by
  have h0 := bytesOf_chunk l h 0 1 (by omega)
  have h1 := bytesOf_chunk l h 1 6 (by omega)
  simp only [List.drop_zero] at h0
  simp only [RecD.bytes, bytesUp, RecD.nums, markOf]
  simp only [List.zip_cons_cons, List.zip_nil_right, List.take_succ_cons, List.flatMap_cons, List.flatMap_nil, List.take_nil, h0, h1, Int.reduceEq, if_false]
  match l, hl with
  | [a0, a1, a2, a3, a4, a5, a6], _ => rfl

theorem eventOf_bytes (l : List Int) (h : ∀ x ∈ l, 0 ≤ x ∧ x ≤ 255) (hl : l.length = 19) : (eventOf l).bytes = 1 :: l := by
  have h0 := bytesOf_chunk l h 0 6 (by omega)
  have h1 := bytesOf_chunk l h 6 1 (by omega)
  have h2 := bytesOf_chunk l h 7 3 (by omega)
  have h3 := bytesOf_chunk l h 10 1 (by omega)
  have h4 := bytesOf_chunk l h 11 4 (by omega)
  have h5 := bytesOf_chunk l h 15 4 (by omega)
  rw [← bytesOf_p32] at h4 h5
  simp only [List.drop_zero] at h0
  simp only [RecD.bytes, bytesUp, RecD.nums, eventOf]
  simp [h0, h1, h2, h3, h4, h5]
  match l, hl with
  | [a0, a1, a2, a3, a4, a5, a6, a7, a8, a9, a10, a11, a12, a13, a14, a15, a16, a17, a18], _ => rfl

theorem takeD_ok (zs : List Int) (h : ∀ x ∈ zs, 0 ≤ x ∧ x ≤ 255) (he : (takeD zs).2 = 0) : (takeD zs).1.right = true ∧ (takeD zs).1.inside = true ∧ (takeD zs).1.bytes = zs ∧ ((takeD zs).1.kd = 1 ∨ (takeD zs).1.kd = 2) := by
  match zs, h, he with
  | [], _, he => simp [takeD] at he
  | k :: l, h, he =>
    have hl : ∀ x ∈ l, 0 ≤ x ∧ x ≤ 255 := fun x hx => h x (List.mem_cons_of_mem _ hx)
    by_cases h1 : k = 1
    · subst h1
      by_cases c1 : l.length < 19
      · simp [takeD, c1] at he
      by_cases c2 : 19 < l.length
      · simp [takeD, c1, c2] at he
      by_cases c3 : ((eventOf l).inside && (eventOf l).right) = true
      · have e : takeD (1 :: l) = (eventOf l, 0) := by simp only [takeD, if_true, if_neg c1, if_neg c2, if_pos c3]
        rw [e]
        simp only [Bool.and_eq_true] at c3
        exact ⟨c3.2, c3.1, eventOf_bytes l hl (by omega), .inl rfl⟩
      · simp only [takeD, if_true, if_neg c1, if_neg c2, if_neg c3] at he
        cases he
    · by_cases h2 : k = 2
      · subst h2
        by_cases c1 : l.length < 7
        · simp [takeD, c1] at he
        by_cases c2 : 7 < l.length
        · simp [takeD, c1, c2] at he
        by_cases c3 : (markOf l).right = true
        · have e : takeD (2 :: l) = (markOf l, 0) := by simp [takeD, c1, c2, c3]
          rw [e]
          exact ⟨c3, by simp [RecD.inside, markOf], markOf_bytes l hl (by omega), .inr rfl⟩
        · simp [takeD, c1, c2, c3] at he
      · simp [takeD, h1, h2] at he

/-- Too short. -/
def shortD : List Int → Bool
  | [] => true
  | k :: l => (decide (k = 1) && decide (l.length < 19)) || (decide (k = 2) && decide (l.length < 7))

theorem takeD_err (zs : List Int) : (takeD zs).2 = 0 ∨ ((takeD zs).2 = 50 ∧ shortD zs = true ∧ (takeD zs).1 = RecD.zero) ∨ ((takeD zs).2 = 11 ∧ shortD zs = false ∧ (takeD zs).1 = RecD.zero) := by
  match zs with
  | [] => exact .inr (.inl ⟨rfl, rfl, rfl⟩)
  | k :: l =>
    by_cases h1 : k = 1
    · subst h1
      by_cases c1 : l.length < 19
      · simp [takeD, shortD, c1]
      by_cases c2 : 19 < l.length
      · simp [takeD, shortD, c1, c2]
      by_cases c3 : ((eventOf l).inside && (eventOf l).right) = true
      · left; simp only [takeD, if_true, if_neg c1, if_neg c2, if_pos c3]
      · right; right; simp only [takeD, if_true, if_neg c1, if_neg c2, if_neg c3]; simp [shortD, c1]
    · by_cases h2 : k = 2
      · subst h2
        by_cases c1 : l.length < 7
        · simp [takeD, shortD, c1]
        by_cases c2 : 7 < l.length
        · simp [takeD, shortD, c1, c2]
        by_cases c3 : (markOf l).right = true
        · simp [takeD, c1, c2, c3]
        · simp [takeD, shortD, c1, c2, c3]
      · simp [takeD, shortD, h1, h2]

end Go.Proofs.Ytcbneobdelbhlaa
