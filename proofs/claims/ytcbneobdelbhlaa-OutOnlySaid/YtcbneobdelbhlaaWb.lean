/-
  Walks of package num: Take of a number; of the reference 01.
-/
import Derived.Test.YtcbneobdelbhlaaWa
import Derived.LoopTactic
namespace Go.Proofs.Ytcbneobdelbhlaa
open Go.RowKit

theorem ret_int {k : IntKind} {a b : Int} (h : a = b) : Ending.returned (.int k a) = .returned (.int k b) := by rw [h]

/-- The number of bytes, the highest first. -/
def numOf (zs : List Int) : Int := zs.foldl (fun n x => 256 * n + x) 0
theorem numOf_snoc (zs : List Int) (x : Int) : numOf (zs ++ [x]) = 256 * numOf zs + x := by simp [numOf]
theorem numOf_bd : ∀ (zs : List Int), (∀ x ∈ zs, 0 ≤ x ∧ x ≤ 255) → 0 ≤ numOf zs ∧ numOf zs < 256 ^ zs.length := by
  intro zs
  rw [← List.reverse_reverse zs]
  induction zs.reverse with
  | nil => intro _; simp [numOf]
  | cons x l ih =>
    intro h
    simp only [List.reverse_cons] at h ⊢
    rw [numOf_snoc]
    have h1 := ih (fun y hy => h y (List.mem_append_left _ hy))
    have h2 := h x (List.mem_append_right _ (by simp))
    simp only [List.length_append, List.length_cons, List.length_nil, Int.pow_succ] at h1 ⊢
    omega

theorem pow256 (j : Nat) (h : j ≤ 6) : (256 : Int) ^ j ≤ 281474976710656 := by
  have : ∀ j : Fin 7, (256 : Int) ^ j.val ≤ 281474976710656 := by decide
  exact this ⟨j, by omega⟩

/-- A slice of bytes that reads as zs. -/
structure Row (w : World) (b off : Nat) (zs : List Int) : Prop where
  cell : ∀ i, i < zs.length → w.cell? ⟨b, off + i, none⟩ = some (.int .u8 (zs.getD i 0))
  byte : ∀ x ∈ zs, 0 ≤ x ∧ x ≤ 255

theorem or_byte (n x : Int) (h0 : 0 ≤ n) (h1 : n < 281474976710656) (hx : 0 ≤ x ∧ x ≤ 255) : bits .or .i64 (n * 256) x = n * 256 + x := by
  obtain ⟨N, rfl⟩ := Int.eq_ofNat_of_zero_le h0
  obtain ⟨X, rfl⟩ := Int.eq_ofNat_of_zero_le hx.1
  have e1 : ((N : Int) * 256) = ((N * 256 : Nat) : Int) := by omega
  show IntKind.i64.wrap ((BitVec.ofInt 64 ((N : Int) * 256) ||| BitVec.ofInt 64 (X : Int)).toNat : Int) = _
  rw [BitVec.toNat_or, e1, ofInt_u64 (N * 256) (by omega), ofInt_u64 X (by omega), nat_join 8 (N * 256) X (by omega) (by omega), IntWalk.i64_in _ (by omega)]
  omega

set_option maxHeartbeats 1000000 in
theorem take_any (b off cap : Nat) (zs : List Int) (w : World) (h : Row w b off zs) (h1 : 1 ≤ zs.length) (h7 : zs.length ≤ 7) (hc : zs.length ≤ cap) (_hm : cap ≤ maxLen) :
    Calls Try.prog 42 #[.slice (some ⟨b, off, none⟩) zs.length cap] w fun e w' => e = .returned (.int .i64 (numOf zs)) ∧ w = w' := by
  have hcell := h.cell
  have hbyte := h.byte
  generalize hlen : zs.length = len at *
  unfold maxLen at _hm
  have HH := Lib.hid hcell
  have HB := Lib.hid hbyte
  have HL := Lib.hid hlen
  clear h hcell hbyte hlen
  have p1 : (1 : Int) ≤ len := by omega
  have p2 : (len : Int) ≤ 7 := by omega
  go_enter Try.func42, Try.ntmps42
  go_wp2
  go_loop [2, 12] (fun n i => ∃ k : Nat, k ≤ len ∧ i = .int .i64 k ∧ n = .int .i64 (numOf (zs.take k))) (fun _ i => len - (intOf i).toNat)
  case atStart => exact ⟨0, Nat.zero_le _, rfl, rfl⟩
  case round =>
    obtain ⟨k, hk, rfl, rfl⟩ := hrel
    by_cases hlt : k < len
    · have hcell := HH.out k (by omega)
      have hbd := numOf_bd (zs.take k) (fun x hx => HB.out x (List.mem_of_mem_take hx))
      have hx : 0 ≤ zs.getD k 0 ∧ zs.getD k 0 ≤ 255 := by
        have : k < zs.length := by rw [HL.out]; exact hlt
        rw [List.getD_eq_getElem?_getD, List.getElem?_eq_getElem this]
        exact HB.out _ (List.getElem_mem this)
      have hn : 0 ≤ numOf (zs.take k) ∧ numOf (zs.take k) < 281474976710656 := by
        refine ⟨hbd.1, Int.lt_of_lt_of_le hbd.2 ?_⟩
        have hk6 : (zs.take k).length ≤ 6 := by simp; omega
        exact pow256 _ hk6
      have hs : numOf (zs.take (k + 1)) = 256 * numOf (zs.take k) + zs.getD k 0 := by
        have hkz : k < zs.length := by rw [HL.out]; exact hlt
        rw [List.take_succ_eq_append_getElem hkz, numOf_snoc, List.getD_eq_getElem?_getD, List.getElem?_eq_getElem hkz]
        rfl
      have HS := Lib.hid hs
      have hor := or_byte _ _ hn.1 (by omega) hx
      clear hbd hs
      generalize zs.getD k 0 = x at *
      generalize numOf (zs.take k) = n at *
      obtain ⟨hx1, hx2⟩ := hx
      obtain ⟨hn1, hn2⟩ := hn
      go_wp2
      go_round
      case rel => exact ⟨k + 1, by omega, by go_num, by rw [HS.out]; congr 1; omega⟩
      case measure => simp [intOf]; omega
    · go_wp2
      go_ret
      have e : zs.take k = zs := List.take_of_length_le (by rw [HL.out]; omega)
      exact ⟨ret_int (by rw [e]), rfl⟩

end Go.Proofs.Ytcbneobdelbhlaa
