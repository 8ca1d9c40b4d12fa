/-
  The reference 05: Take's callees.
-/
import Derived.Test.YtcbneobdelbhlaaWs
import Derived.StillTailTactics
namespace Go.Proofs.Ytcbneobdelbhlaa
open Go.RowKit Go.Shelf

theorem rsize_1 (w : World) : Calls Try.prog 50 #[.int .u8 1] w fun e w' => e = .returned (.int .i64 20) ∧ w = w' := by
  go_enter Try.func50, Try.ntmps50
  go_wp2
  go_ret
  exact ⟨rfl, rfl⟩
theorem rsize_2 (w : World) : Calls Try.prog 50 #[.int .u8 2] w fun e w' => e = .returned (.int .i64 8) ∧ w = w' := by
  go_enter Try.func50, Try.ntmps50
  go_wp2
  go_ret
  exact ⟨rfl, rfl⟩
theorem rsize_0 (k : Int) (h1 : ¬ k = 1) (h2 : ¬ k = 2) (w : World) : Calls Try.prog 50 #[.int .u8 k] w fun e w' => e = .returned (.int .i64 0) ∧ w = w' := by
  go_enter Try.func50, Try.ntmps50
  go_wp2
  go_ret
  exact ⟨rfl, rfl⟩

set_option maxHeartbeats 1000000 in
theorem rtake_num (b off cap : Nat) (zs : List Int) (w : World) (h : Row w b off zs) (h1 : 1 ≤ zs.length) (h7 : zs.length ≤ 7) (hc : zs.length ≤ cap) :
    Calls Try.prog 51 #[.slice (some ⟨b, off, none⟩) zs.length cap] w fun e w' => e = .returned (.int .i64 (numOf zs)) ∧ w = w' := by
  have hcell := h.cell
  have hbyte := h.byte
  generalize hlen : zs.length = len at *
  have HH := Lib.hid hcell
  have HB := Lib.hid hbyte
  have HL := Lib.hid hlen
  clear h hcell hbyte hlen
  have p1 : (1 : Int) ≤ len := by omega
  have p2 : (len : Int) ≤ 7 := by omega
  have hmx : ∀ ts t (w : World), (Builtin.max_ ts t #[.int .i64 ((len : Int) - 7), .int .i64 0]).run Try.prog w = .ok (.int .i64 0) w := by
    intro ts t w
    simp [Builtin.max_, Builtin.max2]
    first | (split <;> simp <;> omega) | (simp; omega) | omega
  go_enter Try.func51, Try.ntmps51
  go_wp2
  go_loop [3, 4] (fun n i => ∃ k : Nat, k ≤ len ∧ i = .int .i64 k ∧ n = .int .i64 (numOf (zs.take k))) (fun _ i => len - (intOf i).toNat)
  case atStart => exact ⟨0, Nat.zero_le _, rfl, rfl⟩
  case round =>
    obtain ⟨k, hk, rfl, rfl⟩ := hrel
    by_cases hlt : k < len
    · have hcell := HH.out k (by omega)
      have hbd := numOf_bd (zs.take k) (fun x hx => HB.out x (List.mem_of_mem_take hx))
      have hx : 0 ≤ zs.getD k 0 ∧ zs.getD k 0 ≤ 255 := by
        have : k < zs.length := by rw [HL.out]; exact hlt
        rw [List.getD_eq_getElem?_getD, List.getElem?_eq_getElem this]
        exact HB.out _ (List.getElem_mem this)
      have hn : 0 ≤ numOf (zs.take k) ∧ numOf (zs.take k) < 281474976710656 := by
        refine ⟨hbd.1, Int.lt_of_lt_of_le hbd.2 ?_⟩
        have hk6 : (zs.take k).length ≤ 6 := by simp; omega
        exact pow256 _ hk6
      have hs : numOf (zs.take (k + 1)) = 256 * numOf (zs.take k) + zs.getD k 0 := by
        have hkz : k < zs.length := by rw [HL.out]; exact hlt
        rw [List.take_succ_eq_append_getElem hkz, numOf_snoc, List.getD_eq_getElem?_getD, List.getElem?_eq_getElem hkz]
        rfl
      have HS := Lib.hid hs
      clear hbd hs
      generalize zs.getD k 0 = x at *
      generalize numOf (zs.take k) = n at *
      obtain ⟨hx1, hx2⟩ := hx
      obtain ⟨hn1, hn2⟩ := hn
      go_wp2
      go_round
      case rel => exact ⟨k + 1, by omega, by go_num, by rw [HS.out]⟩
      case measure => simp [intOf]; omega
    · go_wp2
      go_ret
      have e : zs.take k = zs := List.take_of_length_le (by rw [HL.out]; omega)
      exact ⟨ret_int (by rw [e]), rfl⟩

theorem rpart_num (b off cap : Nat) (zs : List Int) (w : World) (h : Row w b off zs) (h4 : zs.length = 4) (hc : 4 ≤ cap) :
    Calls Try.prog 53 #[.slice (some ⟨b, off, none⟩) 4 cap] w fun e w' => e = .returned (.int .i64 (p32 (numOf zs))) ∧ w = w' := by
  have C := rtake_num b off cap zs w h (by omega) (by omega) (by omega)
  rw [h4] at C
  have K := Lib.hid C
  have hbd := numOf_bd zs h.byte
  rw [h4] at hbd
  have b2 : numOf zs < 4294967296 := hbd.2
  obtain ⟨b1, -⟩ := hbd
  have hp : p32 (numOf zs) = if numOf zs < 2147483648 then numOf zs else numOf zs - 4294967296 := by
    unfold p32 IntKind.wrap
    simp [IntKind.bits, IntKind.signed]
    split <;> split <;> omega
  have HP := Lib.hid hp
  clear C h h4 hp
  generalize p32 (numOf zs) = p at *
  generalize numOf zs = n at *
  by_cases hn : n < 2147483648
  · go_enter Try.func53, Try.ntmps53
    go_wp2_with (go_at_call 51; refine K.out.mono ?_; rintro e w' ⟨rfl, rfl⟩)
    go_ret
    exact ⟨ret_int (by rw [HP.out, if_pos hn]), rfl⟩
  · have hn' : 2147483648 ≤ n := by omega
    go_enter Try.func53, Try.ntmps53
    go_wp2_with (go_at_call 51; refine K.out.mono ?_; rintro e w' ⟨rfl, rfl⟩)
    go_ret
    exact ⟨ret_int (by rw [HP.out, if_neg (by omega)]), rfl⟩

set_option maxHeartbeats 400000 in
theorem rmake_in (x y : Int) (hx : x.natAbs ≤ 1048576) (hy : y.natAbs ≤ 1048576) (w : World) :
    Calls Try.prog 52 #[.int .i64 x, .int .i64 y] w fun e w' => e = .returned (.tuple #[.complex .f64 (fb x) (fb y), .int .i64 0]) ∧ w = w' := by
  have h1 : -1048576 ≤ x := by omega
  have h2 : x ≤ 1048576 := by omega
  have h3 : -1048576 ≤ y := by omega
  have h4 : y ≤ 1048576 := by omega
  clear hx hy
  go_enter Try.func52, Try.ntmps52
  go_wp2
  go_ret2
  exact ⟨rfl, rfl⟩

set_option maxHeartbeats 400000 in
theorem rmake_out (x y : Int) (h : ¬ (x.natAbs ≤ 1048576 ∧ y.natAbs ≤ 1048576)) (w : World) :
    Calls Try.prog 52 #[.int .i64 x, .int .i64 y] w fun e w' => e = .returned (.tuple #[.complex .f64 0 0, .int .i64 20]) ∧ w = w' := by
  by_cases h1 : x < -1048576
  · clear h
    go_enter Try.func52, Try.ntmps52
    go_wp2
    go_ret2
    exact ⟨rfl, rfl⟩
  by_cases h2 : 1048576 < x
  · clear h
    go_enter Try.func52, Try.ntmps52
    go_wp2
    go_ret2
    exact ⟨rfl, rfl⟩
  by_cases h3 : y < -1048576
  · clear h
    go_enter Try.func52, Try.ntmps52
    go_wp2
    go_ret2
    exact ⟨rfl, rfl⟩
  · have h4 : 1048576 < y := by omega
    clear h
    go_enter Try.func52, Try.ntmps52
    go_wp2
    go_ret2
    exact ⟨rfl, rfl⟩

end Go.Proofs.Ytcbneobdelbhlaa
