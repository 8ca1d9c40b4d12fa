/-
  Walks of package record: told's iterator, Right.
-/
import Derived.Test.YtcbneobdelbhlaaRc1
import Derived.Test.YtcbneobdelbhlaaRc2
import Derived.Test.YtcbneobdelbhlaaRc0
namespace Go.Proofs.Ytcbneobdelbhlaa
open Go.RowKit Go.Shelf
attribute [local go_sem] Oper.semAt_some

/-- What a kind tells: its source, its time, the closure that tells whether all else may be. -/
structure Tl where
  src : Int
  ts : Int
  f : Nat
  cap : Array Value

def Tl.enc (x : Tl) : Array Value := #[.agg #[.int .i64 x.src, .int .i64 x.ts, .func (.func x.f) #[] x.cap]]

/-- It tells S, T, and its closure answers B. -/
structure Tl.Good (S T : Int) (B : Bool) (x : Tl) (W : World) : Prop where
  src : x.src = S
  ts : x.ts = T
  fine : ∀ W', Kept (fun _ o => o.isCells = true) W W' → Calls Try.prog x.f x.cap W' fun e w' => e = .returned (.bool B) ∧ Below W'.heap.size W' w'
  enter : ∀ args w, (callFunc x.f args).run Try.prog w = .ok (.enter x.f args) w

section
variable {ts src seq ek rs rt : Int} {re im : Nat} {x y : Int}

set_option maxHeartbeats 1000000 in
theorem told_seq_1 (hp : Pt re im x y) (b : Nat) (w : World) (h : w.heap[b]? = some (.cells #[.int .u8 1, .int .i64 ts, .int .i64 src, .int .i64 seq, .int .i64 ek, .complex .f64 re im, .int .i64 rs, .int .i64 rt] 34 (0, 0))) :
    SeqZ Try.prog 94 #[.pointer (some ⟨b, 0, none⟩)] Tl.enc (fun k => k = b) (fun _ => False) (fun _ t W => t.Good src ts (decide (rs = 0 ∧ rt = 0) && evR ts 0 seq ek) W) (fun xs => xs.length = Bool.toNat true) (fun _ => true = true) w := by
  intro l J Jx W hW hJ hJx hY h0
  have hb := hW.same _ _ h rfl
  refine callsIn_of_wp Try.func94 rfl trivial ?_
  simp only [Try.ntmps94, List.size_toArray, List.length_cons, List.length_nil, Nat.reduceAdd, Nat.reduceSub, Array.replicate_succ, Array.replicate_zero, List.push_toArray, List.append_toArray, List.nil_append, List.cons_append]
  refine wpIn_seq (wpIn_wide.2 (Code.wp_mono ?_ (told_region_1 (ts := ts) (src := src) (seq := seq) (ek := ek) (rs := rs) (rt := rt) hp b l W (by simp [World.cell?, hb]) (by simp [World.cell?, hb]) (by simp [World.cell?, hb]) (by simp [World.cell?, hb]) (by simp [World.cell?, hb]) (by simp [World.cell?, hb]) (by simp [World.cell?, hb]) (by simp [World.cell?, hb]) (heap_lt hb) _ _ rfl)))
  rintro e a W1 ⟨rfl, hB, u3, u5, u6, u7, u8, u9, u10, u11, u12, br, bn, rfl, hx1, _, hbr, _⟩
  obtain ⟨⟨b3, rfl, hn, k0, k1, k2⟩⟩ := hx1 rfl
  have hKW : Kept (ZK fun k => k = b) W W1 := Kept.of_below hB
  obtain ⟨fn, tmps, assign, body, hy, hR⟩ := hY [] ⟨src, ts, 111, #[.pointer (some ⟨br, 0, none⟩)]⟩ W1 (hJ _ _ _ h0 (Kept.of_below hB)) ((hW.trans hKW).mono fun _ _ h => h.1)
    ⟨rfl, rfl, fun W' hW' => fine1 hp br W' (hW'.same _ _ hbr rfl), enters_of Try.func111 (by kernel_rfl) rfl⟩
  unfold Tl.enc at hy
  dsimp only at hy
  clear hx1 hY hbr hb h
  show Code.wpIn _ _ _ _ _ _ _
  gi_wp2
  refine ⟨rfl, hR.mono ?_⟩
  rintro e W3 (⟨rfl, hJ3, hk3⟩ | ⟨rfl, hJx3⟩)
  · gi_wp2
    go_end0
    exact ⟨⟨_, rfl⟩, .inl ⟨_, rfl, hJ3⟩⟩
  · gi_wp2
    go_end0
    exact ⟨⟨_, rfl⟩, .inr ⟨_, trivial, hJx3⟩⟩

set_option maxHeartbeats 1000000 in
theorem told_seq_2 (hp : Pt re im x y) (b : Nat) (w : World) (h : w.heap[b]? = some (.cells #[.int .u8 2, .int .i64 ts, .int .i64 src, .int .i64 seq, .int .i64 ek, .complex .f64 re im, .int .i64 rs, .int .i64 rt] 34 (0, 0))) :
    SeqZ Try.prog 94 #[.pointer (some ⟨b, 0, none⟩)] Tl.enc (fun k => k = b) (fun _ => False) (fun _ t W => t.Good rs rt (zeroE ts src seq ek x y && (decide (0 ≤ rt) && decide (rt ≤ 1099511627776))) W) (fun xs => xs.length = Bool.toNat true) (fun _ => true = true) w := by
  intro l J Jx W hW hJ hJx hY h0
  have hb := hW.same _ _ h rfl
  refine callsIn_of_wp Try.func94 rfl trivial ?_
  simp only [Try.ntmps94, List.size_toArray, List.length_cons, List.length_nil, Nat.reduceAdd, Nat.reduceSub, Array.replicate_succ, Array.replicate_zero, List.push_toArray, List.append_toArray, List.nil_append, List.cons_append]
  refine wpIn_seq (wpIn_wide.2 (Code.wp_mono ?_ (told_region_2 (ts := ts) (src := src) (seq := seq) (ek := ek) (rs := rs) (rt := rt) hp b l W (by simp [World.cell?, hb]) (by simp [World.cell?, hb]) (by simp [World.cell?, hb]) (by simp [World.cell?, hb]) (by simp [World.cell?, hb]) (by simp [World.cell?, hb]) (by simp [World.cell?, hb]) (by simp [World.cell?, hb]) (heap_lt hb) _ _ rfl)))
  rintro e a W1 ⟨rfl, hB, u3, u5, u6, u7, u8, u9, u10, u11, u12, br, bn, rfl, _, hx1, hbr, hbn⟩
  obtain ⟨⟨b3, rfl, hn, k0, k1, k2⟩⟩ := hx1 rfl
  have hKW : Kept (ZK fun k => k = b) W W1 := Kept.of_below hB
  obtain ⟨fn, tmps, assign, body, hy, hR⟩ := hY [] ⟨rs, rt, 112, #[.pointer (some ⟨bn, 0, none⟩), .pointer (some ⟨br, 0, none⟩)]⟩ W1 (hJ _ _ _ h0 (Kept.of_below hB)) ((hW.trans hKW).mono fun _ _ h => h.1)
    ⟨rfl, rfl, fun W' hW' => fine2 br bn W' (by have := hW'.same _ _ hbr rfl; simp [World.cell?, this]) (by have := hW'.same _ _ hbn rfl; simp [World.cell?, this]), enters_of Try.func112 (by kernel_rfl) rfl⟩
  unfold Tl.enc at hy
  dsimp only at hy
  clear hx1 hY hbr hbn hb h
  show Code.wpIn _ _ _ _ _ _ _
  gi_wp2
  refine ⟨rfl, hR.mono ?_⟩
  rintro e W3 (⟨rfl, hJ3, hk3⟩ | ⟨rfl, hJx3⟩)
  · gi_wp2
    go_end0
    exact ⟨⟨_, rfl⟩, .inl ⟨_, rfl, hJ3⟩⟩
  · gi_wp2
    go_end0
    exact ⟨⟨_, rfl⟩, .inr ⟨_, trivial, hJx3⟩⟩

set_option maxHeartbeats 1000000 in
theorem told_seq_0 (hp : Pt re im x y) (kd : Int) (n1 : ¬ kd = 1) (n2 : ¬ kd = 2) (b : Nat) (w : World) (h : w.heap[b]? = some (.cells #[.int .u8 kd, .int .i64 ts, .int .i64 src, .int .i64 seq, .int .i64 ek, .complex .f64 re im, .int .i64 rs, .int .i64 rt] 34 (0, 0))) (G : List Tl → Tl → World → Prop) :
    SeqZ Try.prog 94 #[.pointer (some ⟨b, 0, none⟩)] Tl.enc (fun k => k = b) (fun _ => False) G (fun xs => xs.length = Bool.toNat false) (fun _ => false = true) w := by
  intro l J Jx W hW hJ hJx hY h0
  have hb := hW.same _ _ h rfl
  refine callsIn_of_wp Try.func94 rfl trivial ?_
  simp only [Try.ntmps94, List.size_toArray, List.length_cons, List.length_nil, Nat.reduceAdd, Nat.reduceSub, Array.replicate_succ, Array.replicate_zero, List.push_toArray, List.append_toArray, List.nil_append, List.cons_append]
  refine wpIn_seq (wpIn_wide.2 (Code.wp_mono ?_ (told_region_0 (kd := kd) (ts := ts) (src := src) (seq := seq) (ek := ek) (rs := rs) (rt := rt) hp b l W (by simp [World.cell?, hb]) (by simp [World.cell?, hb]) (by simp [World.cell?, hb]) (by simp [World.cell?, hb]) (by simp [World.cell?, hb]) (by simp [World.cell?, hb]) (by simp [World.cell?, hb]) (by simp [World.cell?, hb]) (heap_lt hb) n1 n2 _ _ rfl)))
  rintro e a W1 ⟨rfl, hB, u3, u5, u6, u7, u8, u9, u10, u11, u12, br, bn, rfl, _, _, _, _⟩
  have hJ1 := hJ _ _ _ h0 (Kept.of_below hB)
  clear hY hb h
  show Code.wpIn _ _ _ _ _ _ _
  gi_wp2
  go_end0
  exact ⟨⟨_, rfl⟩, .inl ⟨_, rfl, hJ1⟩⟩

end
end Go.Proofs.Ytcbneobdelbhlaa
