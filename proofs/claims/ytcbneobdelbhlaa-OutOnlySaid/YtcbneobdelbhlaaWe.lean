/-
  Walks of package wire: numbers and their iterator.
-/
import Derived.Test.YtcbneobdelbhlaaWc
namespace Go.Proofs.Ytcbneobdelbhlaa
open Go.RowKit Go.Shelf
attribute [local go_sem] Oper.semAt_some

set_option maxHeartbeats 1000000 in
theorem numbers_seq (b bs : Nat) (zs : List Int) (w : World) (hm : zs.length ≤ 6)
    (h : w.cell? ⟨b, 0, none⟩ = some (.slice (some ⟨bs, 0, none⟩) zs.length zs.length)) (hc : ∀ i, i < zs.length → w.cell? ⟨bs, i, none⟩ = some (.int .i64 (zs.getD i 0))) :
    SeqZ Try.prog 74 #[.pointer (some ⟨b, 0, none⟩)] encInt (fun i => i = b ∨ i = bs) (fun _ => False) (fun pre x _ => pre.length < zs.length ∧ pre ++ [x] = zs.take (pre.length + 1)) (fun xs => xs = zs) (fun _ => True) w := by
  intro l J Jx W hW hJ hJx hY h0
  have hb : W.cell? ⟨b, 0, none⟩ = some (.slice (some ⟨bs, 0, none⟩) zs.length zs.length) := hW.cell h (fun _ _ => .inl rfl)
  have HY := Lib.hid hY
  have HJ := Lib.hid hJ
  have HW := Lib.hid hW
  have HC := Lib.hid hc
  clear hY hJ hJx hW h hc
  generalize hlen : zs.length = len at *
  have HL := Lib.hid hlen
  clear hlen
  have p2 : (len : Int) ≤ 6 := by omega
  refine callsIn_of_wp Try.func74 rfl trivial ?_
  simp only [Try.ntmps74, List.size_toArray, List.length_cons, List.length_nil, Nat.reduceAdd, Nat.reduceSub, Array.replicate_succ, Array.replicate_zero, List.push_toArray, List.append_toArray, List.nil_append, List.cons_append]
  gi_wp2
  gi_loopw [7] (fun v W1 => ∃ j : Nat, j ≤ len ∧ v = .int .i64 j ∧ J (zs.take j) W1 ∧ Kept (ZK fun i => i = b ∨ i = bs) w W1) (fun v _ => len - (intOf v).toNat)
  case atStart => exact ⟨0, Nat.zero_le _, rfl, h0, HW.out⟩
  case round =>
    obtain ⟨j, hj, rfl, hJ1, hK1⟩ := hrel
    by_cases hlt : j < len
    · have hlz : j < zs.length := by rw [HL.out]; exact hlt
      have e : zs.take (j + 1) = zs.take j ++ [zs.getD j 0] := by
        rw [List.take_succ_eq_append_getElem hlz, List.getD_eq_getElem?_getD, List.getElem?_eq_getElem hlz]; rfl
      have hl : (zs.take j).length = j := by rw [List.length_take]; omega
      have hcell := hK1.cell (HC.out j hlt) (fun _ _ => .inr rfl)
      obtain ⟨fn, tmps, assign, body, hy, hR⟩ := HY.out _ (zs.getD j 0) _ hJ1 (hK1.mono fun _ _ h => h.1) ⟨by rw [hl]; exact hlt, by rw [hl, e]⟩
      unfold encInt at hy
      rw [← e] at hR
      generalize zs.getD j 0 = x at *
      clear hl e hlz
      gi_wp2
      refine ⟨rfl, hR.mono ?_⟩
      rintro e W3 (⟨rfl, hJ3, hk3⟩ | ⟨rfl, hJx3⟩)
      · gi_wp2
        go_roundw
        case rel => exact ⟨j + 1, by omega, by go_num, hJ3, hK1.trans hk3⟩
        case measure => simp [intOf]; omega
      · gi_wp2
        refine bodyPost_ret (v := .tuple #[]) (by simp [results, go_sem]) rfl ⟨⟨_, rfl⟩, .inr ⟨_, trivial, hJx3⟩⟩
    · have e : zs.take j = zs := List.take_of_length_le (by rw [HL.out]; omega)
      rw [e] at hJ1
      gi_wp2
      go_end0
      exact ⟨⟨_, rfl⟩, .inl ⟨_, rfl, hJ1⟩⟩

theorem heap_top {W : World} {o : Obj} {n : Nat} (h : W.heap.size = n) : (W.alloc o).heap[n]? = some o := by subst h; exact World.alloc_heap_new W o

/-- The closure over numbers: its slice's box b, the slice's row bs. -/
def NumsAt (n0 : Nat) (w : World) (b bs : Nat) (zs : List Int) : Prop :=
  n0 ≤ b ∧ n0 ≤ bs ∧ w.heap[b]? = some (.cells #[.slice (some ⟨bs, 0, none⟩) zs.length zs.length] 59 (0, 0)) ∧ w.heap[bs]? = some (.cells (zs.map (Value.int .i64)).toArray 3 (0, 0))

set_option maxHeartbeats 1000000 in
theorem numbers_1 {re im : Nat} {x y : Int} (hp : Pt re im x y) (ts src seq ek rs rt : Int) (w : World) :
    Calls Try.prog 44 #[.agg #[.int .u8 1, .int .i64 ts, .int .i64 src, .int .i64 seq, .int .i64 ek, .complex .f64 re im, .int .i64 rs, .int .i64 rt]] w fun e w' =>
      ∃ b bs, e = .returned (.func (.func 74) #[] #[.pointer (some ⟨b, 0, none⟩)]) ∧ NumsAt w.heap.size w' b bs [ts, src, seq, ek, x, y] ∧ Below w.heap.size w w' := by
  have hc1 := conv_FI hp.re
  have hc2 := conv_FI hp.im
  clear hp
  go_enter Try.func44, Try.ntmps44
  go_wp2
  go_ret
  refine ⟨w.heap.size + 2, w.heap.size + 4, rfl, ⟨by omega, by omega, ?_, ?_⟩, ?_⟩
  · rw [Below.heap_alloc _ _ _ (by simp), Below.heap_alloc _ _ _ (by simp)]
    exact heap_top (by simp)
  · exact heap_top (by simp)
  · exact (((((Below.refl _ w).alloc (by simp) _).alloc (by simp) _).alloc (by simp; omega) _).alloc (by simp; omega) _).alloc (by simp; omega) _

set_option maxHeartbeats 1000000 in
theorem numbers_2 (kd ts src seq ek rs rt : Int) (re im : Nat) (hk : ¬ kd = 1) (w : World) :
    Calls Try.prog 44 #[.agg #[.int .u8 kd, .int .i64 ts, .int .i64 src, .int .i64 seq, .int .i64 ek, .complex .f64 re im, .int .i64 rs, .int .i64 rt]] w fun e w' =>
      ∃ b bs, e = .returned (.func (.func 74) #[] #[.pointer (some ⟨b, 0, none⟩)]) ∧ NumsAt w.heap.size w' b bs [rs, rt] ∧ Below w.heap.size w w' := by
  go_enter Try.func44, Try.ntmps44
  go_wp2
  go_ret
  refine ⟨w.heap.size + 2, w.heap.size + 1, rfl, ⟨by omega, by omega, ?_, ?_⟩, ?_⟩
  · rw [Below.heap_alloc _ _ _ (by simp)]
    exact heap_top (by simp)
  · rw [Below.heap_alloc _ _ _ (by simp), Below.heap_alloc _ _ _ (by simp)]
    exact heap_top (by simp)
  · exact ((((Below.refl _ w).alloc (by simp) _).alloc (by simp) _).alloc (by simp; omega) _).alloc (by simp; omega) _

end Go.Proofs.Ytcbneobdelbhlaa
