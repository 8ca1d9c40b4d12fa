/-
  Walks of package num: the iterator of shifts.
-/
import Derived.Test.YtcbneobdelbhlaaWb
import Derived.LoopIn
namespace Go.Proofs.Ytcbneobdelbhlaa
open Go.RowKit Go.Shelf
attribute [local go_sem] Oper.semAt_some

/-- The shifts of a number of k bytes, the highest byte's first. -/
def shiftsOf (k : Nat) : List Int := (List.range k).map fun (j : Nat) => 8 * ((k : Int) - 1 - (j : Int))
theorem shiftsOf_len (k : Nat) : (shiftsOf k).length = k := by simp [shiftsOf]
theorem shiftsOf_take (k j : Nat) (h : j < k) : (shiftsOf k).take (j + 1) = (shiftsOf k).take j ++ [8 * ((k : Int) - 1 - j)] := by
  rw [List.take_succ_eq_append_getElem (by rw [shiftsOf_len]; exact h)]
  simp [shiftsOf]

def encInt (x : Int) : Array Value := #[.int .i64 x]

set_option maxHeartbeats 1000000 in
theorem shifts_seq (k b : Nat) (h1 : 1 ≤ k) (h8 : k ≤ 8) (w : World) (h : w.cell? ⟨b, 0, none⟩ = some (.int .i64 k)) :
    SeqZ Try.prog 96 #[.pointer (some ⟨b, 0, none⟩)] encInt (fun i => i = b) (fun _ => False) (fun pre x _ => pre.length < k ∧ pre ++ [x] = (shiftsOf k).take (pre.length + 1)) (fun xs => xs = shiftsOf k) (fun _ => True) w := by
  intro l J Jx W hW hJ hJx hY h0
  have hb : W.cell? ⟨b, 0, none⟩ = some (.int .i64 k) := hW.cell h (fun _ _ => rfl)
  have HY := Lib.hid hY
  have HJ := Lib.hid hJ
  have HW := Lib.hid hW
  clear hY hJ hJx hW h
  have p1 : (1 : Int) ≤ (k : Int) := by omega
  have p2 : (k : Int) ≤ 8 := by omega
  refine callsIn_of_wp Try.func96 rfl trivial ?_
  simp only [Try.ntmps96, List.size_toArray, List.length_cons, List.length_nil, Nat.reduceAdd, Nat.reduceSub, Array.replicate_succ, Array.replicate_zero, List.push_toArray, List.append_toArray, List.nil_append, List.cons_append]
  gi_wp2
  gi_loopw [3] (fun v W1 => ∃ j : Nat, j ≤ k ∧ v = .int .i64 (8 * ((k : Int) - 1 - j)) ∧ J ((shiftsOf k).take j) W1 ∧ Kept (ZK fun i => i = b) w W1) (fun v _ => (intOf v + 8).toNat)
  case atStart => exact ⟨0, Nat.zero_le _, by go_num, h0, HW.out⟩
  case round =>
    obtain ⟨j, hj, rfl, hJ1, hK1⟩ := hrel
    by_cases hlt : j < k
    · have e := shiftsOf_take k j hlt
      have hl : ((shiftsOf k).take j).length = j := by rw [List.length_take, shiftsOf_len]; omega
      obtain ⟨fn, tmps, assign, body, hy, hR⟩ := HY.out _ (8 * ((k : Int) - 1 - j)) _ hJ1 (hK1.mono fun _ _ h => h.1) ⟨by rw [hl]; exact hlt, by rw [hl, e]⟩
      unfold encInt at hy
      try dsimp only at hy
      rw [← e] at hR
      gi_wp2
      refine ⟨rfl, hR.mono ?_⟩
      rintro e W3 (⟨rfl, hJ3, hk3⟩ | ⟨rfl, hJx3⟩)
      · gi_wp2
        go_roundw
        case rel => exact ⟨j + 1, by omega, by go_num, hJ3, hK1.trans hk3⟩
        case measure => simp [intOf]; omega
      · gi_wp2
        refine bodyPost_ret (v := .tuple #[]) (by simp [results, go_sem]) rfl ⟨⟨_, rfl⟩, .inr ⟨_, trivial, hJx3⟩⟩
    · have e : (shiftsOf k).take j = shiftsOf k := List.take_of_length_le (by rw [shiftsOf_len]; omega)
      rw [e] at hJ1
      gi_wp2
      go_end0
      exact ⟨⟨_, rfl⟩, .inl ⟨_, rfl, hJ1⟩⟩

end Go.Proofs.Ytcbneobdelbhlaa
