/-
  Whole numbers as float64: a word that reads as a whole number below 2^53; sums, products, comparisons, cuts of such words are exact.
-/
import Derived.Laws.FloatArith
import Derived.WalkKit
namespace Go.Proofs.Ytcbneobdelbhlaa
open Go

/-- What a datum is worth. -/
def DI (d : Ieee.Datum) (n : Int) : Prop := ∃ s : Bool, ∃ k : Nat, d = .number s (n.natAbs <<< k) (-(k : Int)) ∧ (n ≠ 0 → s = decide (n < 0))

/-- A word that reads as the whole number n, |n| < 2^53 (a zero may bear a sign). -/
def FI (b : Nat) (n : Int) : Prop := DI (FloatKind.f64.decode b) n ∧ n.natAbs < 2 ^ 53 ∧ b < 2 ^ 64

theorem log2_shl {n : Nat} (h : n ≠ 0) (k : Nat) : (n <<< k).log2 = n.log2 + k := by
  rw [Nat.shiftLeft_eq]
  refine (Nat.log2_eq_iff (Nat.mul_ne_zero h (Nat.ne_of_gt (Nat.two_pow_pos _)))).2 ⟨?_, ?_⟩
  · rw [Nat.pow_add]; exact Nat.mul_le_mul_right _ (Nat.log2_self_le h)
  · rw [show n.log2 + k + 1 = (n.log2 + 1) + k by omega, Nat.pow_add]; exact Nat.mul_lt_mul_of_pos_right Nat.lt_log2_self (Nat.two_pow_pos _)

theorem log2_lt53 {n : Nat} (hn : n ≠ 0) (h : n < 2 ^ 53) : n.log2 < 53 := (Nat.log2_lt hn).2 h

/-- The rung of a whole number. -/
def rung (N : Nat) : Nat := (N.log2 + 1022) * 2 ^ 52 + N * 2 ^ (52 - N.log2)

theorem full {N : Nat} (h0 : N ≠ 0) (h : N < 2 ^ 53) : 2 ^ 52 ≤ N * 2 ^ (52 - N.log2) ∧ N * 2 ^ (52 - N.log2) < 2 ^ 53 := by
  have hl := log2_lt53 h0 h
  constructor
  · calc 2 ^ 52 = 2 ^ N.log2 * 2 ^ (52 - N.log2) := by rw [← Nat.pow_add]; congr 1; omega
      _ ≤ _ := Nat.mul_le_mul_right _ (Nat.log2_self_le h0)
  · calc N * 2 ^ (52 - N.log2) < 2 ^ (N.log2 + 1) * 2 ^ (52 - N.log2) := Nat.mul_lt_mul_of_pos_right Nat.lt_log2_self (Nat.two_pow_pos _)
      _ = 2 ^ 53 := by rw [← Nat.pow_add]; congr 1; omega

theorem rung_le {N : Nat} (h0 : N ≠ 0) (h : N < 2 ^ 53) : rung N ≤ 2047 * 2 ^ 52 := by
  have hl := log2_lt53 h0 h
  have hf := (full h0 h).2
  unfold rung
  have h1 : N.log2 * 2 ^ 52 ≤ 52 * 2 ^ 52 := Nat.mul_le_mul_right _ (by omega)
  have h2 : (2 : Nat) ^ 53 = 2 * 2 ^ 52 := by rw [Nat.pow_succ, Nat.mul_comm]
  rw [h2] at hf
  rw [Nat.add_mul]
  generalize (2 : Nat) ^ 52 = B at *
  generalize N * 2 ^ (52 - N.log2) = X at *
  generalize N.log2 * B = Y at *
  omega

theorem cut_exact (s : Bool) (M j : Nat) : Ieee.Toward.even.cut s (M * 2 ^ j) j = M ∧ Ieee.Toward.zero.cut s (M * 2 ^ j) j = M := by
  have key : ∀ g, g = 2 ^ j ∨ (M = 0 ∧ 0 < g) → (M * 2 ^ j) / g = M ∧ (M * 2 ^ j) % g = 0 ∧ 0 < g := by
    rintro g (rfl | ⟨rfl, hg⟩)
    · exact ⟨Nat.mul_div_cancel _ (Nat.two_pow_pos _), Nat.mul_mod_left _ _, Nat.two_pow_pos _⟩
    · simp [hg]
  have hg : (1 <<< min j ((M * 2 ^ j).log2 + 2)) = 2 ^ j ∨ (M = 0 ∧ 0 < (1 <<< min j ((M * 2 ^ j).log2 + 2))) := by
    by_cases hM : M = 0
    · right; exact ⟨hM, by rw [Nat.shiftLeft_eq]; exact Nat.mul_pos (by omega) (Nat.two_pow_pos _)⟩
    · left
      have := log2_shl hM j
      rw [Nat.shiftLeft_eq] at this
      rw [this, Nat.min_eq_left (by omega), Nat.shiftLeft_eq, Nat.one_mul]
  obtain ⟨a, b, c⟩ := key _ hg
  unfold Ieee.Toward.cut
  simp only [a, b]
  constructor
  · have h1 : ¬ ((1 <<< min j ((M * 2 ^ j).log2 + 2)) < 2 * 0) := by omega
    have h2 : ((1 <<< min j ((M * 2 ^ j).log2 + 2)) == 2 * 0) = false := by
      rw [beq_eq_false_iff_ne]; omega
    simp only [h1, h2, decide_false, Bool.false_and, Bool.or_self, Bool.toNat_false, Nat.add_zero]
  · simp

theorem nearest_scale (s : Bool) (N k : Nat) (h0 : N ≠ 0) (h : N < 2 ^ 53) : Ieee.double.nearest s (N <<< k) (-(k : Int)) = Ieee.double.word s (rung N) := by
  have hl := log2_lt53 h0 h
  have hf := full h0 h
  have hne : N <<< k ≠ 0 := by rw [Nat.shiftLeft_eq]; exact Nat.mul_ne_zero h0 (Nat.ne_of_gt (Nat.two_pow_pos _))
  unfold Ieee.Format.nearest
  rw [if_neg hne, log2_shl h0]
  have hlp : Ieee.double.leastPlace = -1074 := by rfl
  have hfb : Ieee.double.fractionBits = 52 := rfl
  have hbin : Ieee.double.binade = 2 ^ 52 := rfl
  have hinf : Ieee.double.infRung = 2047 * 2 ^ 52 := rfl
  have hlast : max (-(k : Int) + ((N.log2 + k : Nat) : Int) - (52 : Nat)) (-1074) = (N.log2 : Int) - 52 := by omega
  simp only [hlp, hfb, hbin, hinf, hlast]
  have hkept : Ieee.Toward.even.cut s ((N <<< k) <<< (-(k : Int) - ((N.log2 : Int) - 52)).toNat) ((N.log2 : Int) - 52 - -(k : Int)).toNat = N * 2 ^ (52 - N.log2) := by
    by_cases hk : k ≤ 52 - N.log2
    · have e1 : (-(k : Int) - ((N.log2 : Int) - 52)).toNat = 52 - N.log2 - k := by omega
      have e2 : ((N.log2 : Int) - 52 - -(k : Int)).toNat = 0 := by omega
      rw [e1, e2, ← Nat.shiftLeft_add, Nat.shiftLeft_eq, show k + (52 - N.log2 - k) = 52 - N.log2 by omega]
      have := (cut_exact s (N * 2 ^ (52 - N.log2)) 0).1
      simpa using this
    · have e1 : (-(k : Int) - ((N.log2 : Int) - 52)).toNat = 0 := by omega
      have e2 : ((N.log2 : Int) - 52 - -(k : Int)).toNat = k - (52 - N.log2) := by omega
      rw [e1, e2, Nat.shiftLeft_zero, Nat.shiftLeft_eq]
      have := (cut_exact s (N * 2 ^ (52 - N.log2)) (k - (52 - N.log2))).1
      rw [Nat.mul_assoc, ← Nat.pow_add, show 52 - N.log2 + (k - (52 - N.log2)) = k by omega] at this
      exact this
  rw [hkept]
  have e3 : ((N.log2 : Int) - 52 - -1074).toNat = N.log2 + 1022 := by omega
  rw [e3]
  congr 1
  exact Nat.min_eq_left (rung_le h0 h)

theorem read_word (s : Bool) (N : Nat) (h0 : N ≠ 0) (h : N < 2 ^ 53) : Ieee.double.read (Ieee.double.word s (rung N)) = .number s (N <<< (52 - N.log2)) (-((52 - N.log2 : Nat) : Int)) := by
  have hl := log2_lt53 h0 h
  have hf := full h0 h
  have hlp : Ieee.double.leastPlace = -1074 := by rfl
  have hbin : Ieee.double.binade = 2 ^ 52 := rfl
  have hinf : Ieee.double.infRung = 2047 * 2 ^ 52 := rfl
  have hsw : Ieee.double.signWeight = 2 ^ 63 := rfl
  obtain ⟨F, hF⟩ : ∃ F, N * 2 ^ (52 - N.log2) = 2 ^ 52 + F := ⟨N * 2 ^ (52 - N.log2) - 2 ^ 52, by omega⟩
  have hr : rung N = (N.log2 + 1023) * 2 ^ 52 + F := by unfold rung; rw [hF]; omega
  have hr1 : rung N < 2 ^ 63 := by rw [hr]; omega
  have hw1 : Ieee.double.word s (rung N) / 2 ^ 63 % 2 = s.toNat := by
    cases s <;> simp only [Ieee.Format.word, hsw, if_true, if_false, Bool.false_eq_true, Bool.toNat_true, Bool.toNat_false] <;> omega
  have hw2 : Ieee.double.word s (rung N) % 2 ^ 63 = rung N := by
    cases s <;> simp only [Ieee.Format.word, hsw, if_true, if_false, Bool.false_eq_true] <;> omega
  unfold Ieee.Format.read
  simp only [hsw, hbin, hinf, hlp, hw1, hw2]
  rw [if_neg (by rw [hr]; omega), if_pos (by rw [hr]; omega)]
  have a1 : rung N % 2 ^ 52 = F := by rw [hr]; omega
  have a2 : rung N / 2 ^ 52 - 1 = N.log2 + 1022 := by rw [hr]; omega
  rw [a1, a2, ← hF, Nat.shiftLeft_eq]
  have a3 : (-1074 + ((N.log2 + 1022 : Nat) : Int)) = (-((52 - N.log2 : Nat) : Int)) := by omega
  rw [a3]
  cases s <;> rfl

theorem word_lt64 (s : Bool) (N : Nat) (h : N < 2 ^ 63) : Ieee.double.word s N < 2 ^ 64 := by
  have hsw : Ieee.double.signWeight = 2 ^ 63 := rfl
  cases s <;> simp only [Ieee.Format.word, hsw, if_true, if_false, Bool.false_eq_true] <;> omega

/-- What is written of a whole number reads as it. -/
theorem FI_write {d : Ieee.Datum} {n : Int} (hd : DI d n) (hn : n.natAbs < 2 ^ 53) : FI (Ieee.double.write d) n := by
  obtain ⟨s, k, rfl, hs⟩ := hd
  show DI (Ieee.double.read _) n ∧ _ ∧ _
  by_cases h0 : n = 0
  · subst h0
    have e : Ieee.double.write (.number s ((0 : Int).natAbs <<< k) (-(k : Int))) = Ieee.double.word s 0 := by
      simp only [Int.natAbs_zero, Nat.zero_shiftLeft, Ieee.Format.write, Ieee.Format.nearest, if_true]
    rw [e]
    cases s
    · exact ⟨⟨false, 1074, by rfl, by simp⟩, by decide, by decide⟩
    · exact ⟨⟨true, 1074, by rfl, by simp⟩, by decide, by decide⟩
  · have h0' : n.natAbs ≠ 0 := by omega
    have e : Ieee.double.write (.number s (n.natAbs <<< k) (-(k : Int))) = Ieee.double.word s (rung n.natAbs) := nearest_scale s _ k h0' hn
    rw [e, read_word s _ h0' hn]
    have hl := log2_lt53 h0' hn
    have hf := full h0' hn
    exact ⟨⟨s, _, rfl, hs⟩, hn, word_lt64 _ _ (Nat.lt_of_le_of_lt (rung_le h0' hn) (by decide))⟩

/-- Two words of one number but zero are one. -/
theorem write_unique {d d' : Ieee.Datum} {n : Int} (hd : DI d n) (hd' : DI d' n) (hn : n.natAbs < 2 ^ 53) (h0 : n ≠ 0) : Ieee.double.write d = Ieee.double.write d' := by
  obtain ⟨s, k, rfl, hs⟩ := hd
  obtain ⟨s', k', rfl, hs'⟩ := hd'
  have h0' : n.natAbs ≠ 0 := by omega
  show Ieee.double.nearest _ _ _ = Ieee.double.nearest _ _ _
  rw [nearest_scale s _ k h0' hn, nearest_scale s' _ k' h0' hn, hs h0, hs' h0]

theorem signed_DI {s : Bool} {n : Int} {k u : Nat} (hs : n ≠ 0 → s = decide (n < 0)) : Ieee.signed s (n.natAbs <<< k) u = n * 2 ^ (k + u) := by
  unfold Ieee.signed
  rw [← Nat.shiftLeft_add, Nat.shiftLeft_eq]
  by_cases h0 : n = 0
  · subst h0; simp
  · rw [hs h0]
    by_cases hn : n < 0
    · simp only [hn, decide_true, if_true]
      rw [Int.natCast_mul, Int.natCast_pow, show ((n.natAbs : Int)) = -n by omega, Int.neg_mul, Int.neg_neg]
      rfl
    · simp only [hn, decide_false, if_false, Bool.false_eq_true]
      rw [Int.natCast_mul, Int.natCast_pow, show ((n.natAbs : Int)) = n by omega]
      simp

theorem DI_sum {d e : Ieee.Datum} {a b : Int} (hd : DI d a) (he : DI e b) : ∃ r, d.sum e = some r ∧ DI r (a + b) := by
  obtain ⟨s, k, rfl, hs⟩ := hd
  obtain ⟨t, l, rfl, ht⟩ := he
  refine ⟨_, rfl, ?_⟩
  have e1 : (-(k : Int) - min (-(k : Int)) (-(l : Int))).toNat = max k l - k := by omega
  have e2 : (-(l : Int) - min (-(k : Int)) (-(l : Int))).toNat = max k l - l := by omega
  have e3 : min (-(k : Int)) (-(l : Int)) = -((max k l : Nat) : Int) := by omega
  have e4 : a * 2 ^ (k + (max k l - k)) + b * 2 ^ (l + (max k l - l)) = (a + b) * 2 ^ (max k l) := by
    rw [show k + (max k l - k) = max k l by omega, show l + (max k l - l) = max k l by omega, Int.add_mul]
  simp only [e1, e2, signed_DI hs, signed_DI ht, e4]
  rw [e3]
  refine ⟨_, max k l, by congr 1; rw [Int.natAbs_mul, Nat.shiftLeft_eq, Int.natAbs_pow]; rfl, fun h => ?_⟩
  have hp : (0 : Int) < 2 ^ max k l := Int.pow_pos (by decide)
  rw [if_neg (Int.mul_ne_zero h (by omega))]
  by_cases h1 : a + b < 0
  · simp only [h1, decide_true, decide_eq_true_eq]; exact Int.mul_neg_of_neg_of_pos h1 hp
  · simp only [h1, decide_false, decide_eq_false_iff_not, Int.not_lt]; exact Int.mul_nonneg (by omega) (by omega)

theorem DI_product {d e : Ieee.Datum} {a b : Int} (hd : DI d a) (he : DI e b) : ∃ r, d.product e = some r ∧ DI r (a * b) := by
  obtain ⟨s, k, rfl, hs⟩ := hd
  obtain ⟨t, l, rfl, ht⟩ := he
  refine ⟨_, rfl, s ^^ t, k + l, ?_, fun h => ?_⟩
  · congr 1
    · rw [Int.natAbs_mul]; simp only [Nat.shiftLeft_eq, Nat.pow_add]; exact Nat.mul_mul_mul_comm ..
    · omega
  · have ha : a ≠ 0 := fun e => h (by simp [e])
    have hb : b ≠ 0 := fun e => h (by simp [e])
    rw [hs ha, ht hb]
    by_cases h1 : a < 0 <;> by_cases h2 : b < 0 <;> simp only [h1, h2, decide_true, decide_false, Bool.xor_self, Bool.xor_false, Bool.xor_true, Bool.not_false]
    · symm; rw [decide_eq_false_iff_not]; exact Int.not_lt.2 (Int.mul_nonneg_of_nonpos_of_nonpos (by omega) (by omega))
    · symm; rw [decide_eq_true_eq]; exact Int.mul_neg_of_neg_of_pos h1 (by omega)
    · symm; rw [decide_eq_true_eq]; exact Int.mul_neg_of_pos_of_neg (by omega) h2
    · symm; rw [decide_eq_false_iff_not]; exact Int.not_lt.2 (Int.mul_nonneg (by omega) (by omega))

theorem DI_opposite {d : Ieee.Datum} {a : Int} (hd : DI d a) : DI d.opposite (-a) := by
  obtain ⟨s, k, rfl, hs⟩ := hd
  refine ⟨!s, k, by simp [Ieee.Datum.opposite], fun h => ?_⟩
  rw [hs (by omega)]
  by_cases h1 : a < 0
  · simp [h1]; omega
  · simp [h1]; omega

theorem DI_toInt {d : Ieee.Datum} {a : Int} (hd : DI d a) : d.toInt .zero = some a := by
  obtain ⟨s, k, rfl, hs⟩ := hd
  have e1 : (-(k : Int)).toNat = 0 := by omega
  have e2 : (- -(k : Int)).toNat = k := by omega
  have := (cut_exact s a.natAbs k).2
  rw [← Nat.shiftLeft_eq] at this
  simp only [Ieee.Datum.toInt, Ieee.Datum.integral, e1, e2, Nat.shiftLeft_zero, this]
  have h := signed_DI (s := s) (n := a) (k := 0) (u := 0) hs
  simpa using h

theorem DI_integral {d : Ieee.Datum} {a : Int} (hd : DI d a) : DI (d.integral .zero) a := by
  obtain ⟨s, k, rfl, hs⟩ := hd
  have e1 : (-(k : Int)).toNat = 0 := by omega
  have e2 : (- -(k : Int)).toNat = k := by omega
  have := (cut_exact s a.natAbs k).2
  rw [← Nat.shiftLeft_eq] at this
  refine ⟨s, 0, ?_, hs⟩
  simp only [Ieee.Datum.integral, e1, e2, Nat.shiftLeft_zero, this]
  simp

theorem DI_order {d e : Ieee.Datum} {a b : Int} (hd : DI d a) (he : DI e b) : d.order e = some (compare a b) := by
  obtain ⟨s, k, rfl, hs⟩ := hd
  obtain ⟨t, l, rfl, ht⟩ := he
  have e1 : (-(k : Int) - min (-(k : Int)) (-(l : Int))).toNat = max k l - k := by omega
  have e2 : (-(l : Int) - min (-(k : Int)) (-(l : Int))).toNat = max k l - l := by omega
  simp only [Ieee.Datum.order, e1, e2, signed_DI hs, signed_DI ht]
  rw [show k + (max k l - k) = max k l by omega, show l + (max k l - l) = max k l by omega]
  have hp : (0 : Int) < 2 ^ max k l := Int.pow_pos (by decide)
  congr 1
  rcases Int.lt_trichotomy a b with h | h | h
  · rw [Int.compare_eq_lt.2 h, Int.compare_eq_lt]; exact Int.mul_lt_mul_of_pos_right h hp
  · subst h; simp
  · rw [Int.compare_eq_gt.2 h, Int.compare_eq_gt]; exact Int.mul_lt_mul_of_pos_right h hp

theorem FI_ofInt {n : Int} (h : n.natAbs < 2 ^ 53) : FI (FloatKind.f64.nearest n) n :=
  FI_write (d := .number (decide (n < 0)) n.natAbs 0) ⟨decide (n < 0), 0, by simp, fun _ => rfl⟩ h

theorem FI_add {x y : Nat} {a b : Int} (hx : FI x a) (hy : FI y b) (h : (a + b).natAbs < 2 ^ 53) : ∃ r, Ieee.double.add x y = some r ∧ FI r (a + b) := by
  obtain ⟨r, hr, hd⟩ := DI_sum hx.1 hy.1
  exact ⟨Ieee.double.write r, by show (Option.map _ (Ieee.Datum.sum (Ieee.double.read x) (Ieee.double.read y))) = _; rw [show (Ieee.double.read x).sum (Ieee.double.read y) = some r from hr]; rfl, FI_write hd h⟩

theorem FI_sub {x y : Nat} {a b : Int} (hx : FI x a) (hy : FI y b) (h : (a - b).natAbs < 2 ^ 53) : ∃ r, Ieee.double.sub x y = some r ∧ FI r (a - b) := by
  obtain ⟨r, hr, hd⟩ := DI_sum hx.1 (DI_opposite hy.1)
  exact ⟨Ieee.double.write r, by show (Option.map _ (Ieee.Datum.sum (Ieee.double.read x) (Ieee.double.read y).opposite)) = _; rw [show (Ieee.double.read x).sum (Ieee.double.read y).opposite = some r from hr]; rfl, FI_write hd h⟩

theorem FI_mul {x y : Nat} {a b : Int} (hx : FI x a) (hy : FI y b) (h : (a * b).natAbs < 2 ^ 53) : ∃ r, Ieee.double.mul x y = some r ∧ FI r (a * b) := by
  obtain ⟨r, hr, hd⟩ := DI_product hx.1 hy.1
  exact ⟨Ieee.double.write r, by show (Option.map _ (Ieee.Datum.product (Ieee.double.read x) (Ieee.double.read y))) = _; rw [show (Ieee.double.read x).product (Ieee.double.read y) = some r from hr]; rfl, FI_write hd h⟩

theorem FI_toInt {x : Nat} {a : Int} (hx : FI x a) : (FloatKind.f64.decode x).toInt .zero = some a := DI_toInt hx.1
theorem FI_order {x y : Nat} {a b : Int} (hx : FI x a) (hy : FI y b) : FloatKind.f64.format.order x y = some (compare a b) := DI_order hx.1 hy.1

theorem FI_trunc {x : Nat} {a : Int} (hx : FI x a) : FI (FloatKind.f64.encode ((FloatKind.f64.decode x).integral .zero)) a := FI_write (DI_integral hx.1) hx.2.1

theorem read_parts : ∃ f : Bool → Nat → Ieee.Datum, (∀ b, Ieee.double.read b = f (b / 2 ^ 63 % 2 == 1) (b % 2 ^ 63)) ∧ (∀ s r, f (!s) r = (f s r).opposite) := by
  refine ⟨fun neg rung => if rung < Ieee.double.binade then .number neg rung Ieee.double.leastPlace
    else if rung < Ieee.double.infRung then .number neg (Ieee.double.binade + rung % Ieee.double.binade) (Ieee.double.leastPlace + (rung / Ieee.double.binade - 1 : Nat))
    else if rung = Ieee.double.infRung then .infinity neg
    else .nan neg (rung - Ieee.double.infRung), fun b => rfl, fun s r => ?_⟩
  dsimp only
  split
  · rfl
  · split
    · rfl
    · split <;> rfl

theorem FI_flip {b c : Nat} {n : Int} (h : FI b n) (hc : c < 2 ^ 64) (h1 : (c / 2 ^ 63 % 2 == 1) = !(b / 2 ^ 63 % 2 == 1)) (h2 : c % 2 ^ 63 = b % 2 ^ 63) : FI c (-n) := by
  obtain ⟨f, hf, ho⟩ := read_parts
  refine ⟨?_, by rw [Int.natAbs_neg]; exact h.2.1, hc⟩
  have := DI_opposite h.1
  rw [show FloatKind.f64.decode b = Ieee.double.read b from rfl, hf, ← ho] at this
  rw [show FloatKind.f64.decode c = Ieee.double.read c from rfl, hf, h1, h2]
  exact this

theorem FI_neg {b : Nat} {n : Int} (h : FI b n) : FI (Op.negFloat .f64 b) (-n) := by
  have hb := h.2.2
  have e : Op.negFloat .f64 b = b ^^^ 2 ^ 63 := rfl
  rw [e]
  have t : b / 2 ^ 63 < 2 := Nat.div_lt_of_lt_mul (by rw [← Nat.pow_succ]; exact hb)
  have x1 : (b ^^^ 2 ^ 63) / 2 ^ 63 = b / 2 ^ 63 ^^^ 1 := by rw [Nat.xor_div_two_pow]
  have x2 : (b ^^^ 2 ^ 63) % 2 ^ 63 = b % 2 ^ 63 := by rw [Nat.xor_mod_two_pow]; simp
  refine FI_flip h (Nat.xor_lt_two_pow hb (by decide)) ?_ x2
  rw [x1]
  generalize b / 2 ^ 63 = q at *
  have : q = 0 ∨ q = 1 := by omega
  rcases this with rfl | rfl <;> first | rfl | decide

theorem FI_abs {b : Nat} {n : Int} (h : FI b n) : FI (b % 2 ^ 63) (n.natAbs : Int) := by
  have hb := h.2.2
  have t : b / 2 ^ 63 < 2 := Nat.div_lt_of_lt_mul (by rw [← Nat.pow_succ]; exact hb)
  have hm : b % 2 ^ 63 < 2 ^ 63 := Nat.mod_lt _ (Nat.two_pow_pos _)
  obtain ⟨s, k, hd, hs⟩ := h.1
  have r1 : b % 2 ^ 63 / 2 ^ 63 = 0 := Nat.div_eq_of_lt hm
  have r2 : b % 2 ^ 63 % 2 ^ 63 = b % 2 ^ 63 := Nat.mod_mod _ _
  have r3 : b % 2 ^ 63 < 2 ^ 64 := Nat.lt_of_lt_of_le hm (by decide)
  obtain ⟨f, hf, ho⟩ := read_parts
  have hq : b / 2 ^ 63 = 0 ∨ b / 2 ^ 63 = 1 := by omega
  have hneg : (FloatKind.f64.decode b).neg = (b / 2 ^ 63 % 2 == 1) := by
    show (Ieee.double.read b).neg = _
    unfold Ieee.Format.read
    have : Ieee.double.signWeight = 2 ^ 63 := rfl
    rw [this]
    dsimp only
    split
    · rfl
    · split
      · rfl
      · split <;> rfl
  rcases hq with q | q
  · -- no sign
    have e : b % 2 ^ 63 = b := by have := Nat.div_add_mod b (2 ^ 63); rw [q] at this; omega
    rw [e]
    rw [q, hd] at hneg
    have hs0 : s = false := hneg
    have : n = (n.natAbs : Int) := by
      by_cases h0 : n = 0
      · omega
      · have := hs h0; rw [hs0] at this; have := of_decide_eq_false this.symm; omega
    rw [← this]; exact h
  · have hfl : FI (b % 2 ^ 63) (-n) := FI_flip h r3 (by rw [r1, q]; rfl) r2
    rw [q, hd] at hneg
    have hs0 : s = true := hneg
    have : -n = (n.natAbs : Int) := by
      by_cases h0 : n = 0
      · omega
      · have := hs h0; rw [hs0] at this; have := of_decide_eq_true this.symm; omega
    rw [← this]; exact hfl

end Go.Proofs.Ytcbneobdelbhlaa
