/-
  Package out: the iterator over the parts of one's bytes.
-/
import Derived.Test.YtcbneobdelbhlaaOe
namespace Go.Proofs.Ytcbneobdelbhlaa
open Go.RowKit Go.Shelf
attribute [local go_sem] Oper.semAt_some

/-- A part in memory. -/
structure BX where
  bs : List Int
  g : Nat
  cap : Nat
def BX.enc (x : BX) : Array Value := #[.slice (some ⟨x.g, 0, none⟩) x.bs.length x.cap]
def PartOk (P : List (List Int)) (pre : List BX) (x : BX) (W : World) : Prop := Row W x.g 0 x.bs ∧ 1 ≤ x.bs.length ∧ x.bs.length ≤ 20 ∧ ∃ rest, pre.map BX.bs ++ x.bs :: rest = P

theorem yield_part {J Jx : List BX → World → Prop} {P : List (List Int)} {w wr w2 : World} {l g m cap : Nat} {K : Nat → Prop} {pre : List BX} {bs : List Int} {rest : List (List Int)}
    (HY : ∀ (pre : List BX) (x : BX) (W1 : World), J pre W1 → Kept (ZK fun k => K k ∧ ¬False) w W1 → PartOk P pre x W1 →
      YieldAt Fence.wide 0 Try.prog l x.enc W1 fun e W' => (e = .returned (.bool true) ∧ J (pre ++ [x]) W' ∧ Kept (ZK K) W1 W') ∨ (e = .returned (.bool false) ∧ Jx (pre ++ [x]) W'))
    (HJ : ∀ (s : List BX) (A B : World), J s A → Kept (ZW fun _ => False) A B → J s B) (hX : pre.map BX.bs ++ bs :: rest = P) (hJ1 : J pre wr) (hK1 : Kept (ZK K) w wr)
    (hE : Ext wr w2) (hrow : Row w2 g 0 bs) (hl : bs.length = m) (h1 : 1 ≤ m) (h2 : m ≤ 20) :
    YieldAt Fence.wide 0 Try.prog l #[.slice (some ⟨g, 0, none⟩) m cap] w2 fun e W' =>
      (e = .returned (.bool true) ∧ J (pre ++ [(⟨bs, g, cap⟩ : BX)]) W' ∧ Kept (ZK K) w W' ∧ (pre ++ [(⟨bs, g, cap⟩ : BX)]).map BX.bs ++ rest = P) ∨ (e = .returned (.bool false) ∧ Jx (pre ++ [(⟨bs, g, cap⟩ : BX)]) W') := by
  have hK2 : Kept (ZK K) w w2 := hK1.trans (Kept.of_below hE)
  subst hl
  obtain ⟨fn, tmps, assign, body, hy, hR⟩ := HY pre ⟨bs, g, cap⟩ _ (HJ _ _ _ hJ1 (Kept.of_below hE)) (hK2.mono fun _ _ h => h.1) ⟨hrow, h1, h2, rest, hX⟩
  refine ⟨fn, tmps, assign, body, hy, hR.mono ?_⟩
  rintro e W' (⟨h1, h2, h3⟩ | h)
  · exact .inl ⟨h1, h2, hK2.trans h3, by simpa using hX⟩
  · exact .inr h

theorem put_row (num : Int) (k : Nat) (h1 : 1 ≤ k) (h8 : k ≤ 8) (w : World) :
    Calls Try.prog 45 #[.int .i64 num, .int .i64 k] w fun e w' => ∃ g cap, e = .returned (.slice (some ⟨g, 0, none⟩) k cap) ∧ Row w' g 0 (bytesOf num k) ∧ Ext w w' := by
  refine (put_any num k h1 h8 w).mono ?_
  rintro e w' ⟨v, rfl, hown, hB⟩
  obtain ⟨g, cap, rfl, _, _, _, _, h5⟩ := row_of_owns (zs := bytesOf num k) hown (by omega) (by
    intro x hx
    obtain ⟨s, _, rfl⟩ := List.mem_map.1 hx
    unfold byteAt
    omega)
  exact ⟨g, cap, rfl, h5, hB⟩

def partsS (at_ code : Int) : List (List Int) := [[3], bytesOf at_ 4, [code]]

set_option maxHeartbeats 2000000 in
set_option maxRecDepth 100000 in
theorem parts_side (bo : Nat) (at_ code : Int) (hc : 0 ≤ code ∧ code ≤ 255) (w : World) (h : w.heap[bo]? = some (.cells #[.int .u8 3, .slice none 0 0, .slice none 0 0, .int .i64 at_, .int .u8 code] 64 (0, 0))) :
    SeqZ Try.prog 89 #[.pointer (some ⟨bo, 0, none⟩)] BX.enc (fun i => i = bo) (fun _ => False) (PartOk (partsS at_ code)) (fun xs => xs.map BX.bs = partsS at_ code) (fun _ => True) w := by
  intro l J Jx W hW hJ hJx hY h0
  have hb := hW.same _ _ h rfl
  have HB := Lib.hid h
  have HY := Lib.hid hY
  have HJ := Lib.hid hJ
  have HW := Lib.hid hW
  clear hY hJ hJx hW h
  have H0 := Lib.hid h0
  clear h0
  obtain ⟨m0, m1, m2, m3, m4⟩ := row5 hb
  refine callsIn_of_wp Try.func89 rfl trivial ?_
  simp only [Try.ntmps89, List.size_toArray, List.length_cons, List.length_nil, Nat.reduceAdd, Nat.reduceSub, Array.replicate_succ, Array.replicate_zero, List.push_toArray, List.append_toArray, List.nil_append, List.cons_append]
  obtain ⟨fn, tmps, assign, body, hy, hR⟩ := yield_part (cap := 1) HY.out HJ.out (pre := []) (bs := [3]) (rest := [bytesOf at_ 4, [code]]) (m := 1) rfl H0.out HW.out ((Ext.refl W).alloc _) (w2 := W.alloc (.cells #[.int .u8 3] 5)) (row_new (w := W) (t := 5) [3] (by decide)) rfl (by omega) (by omega)
  gi_wp2
  refine ⟨rfl, hR.mono ?_⟩
  rintro e W2 (⟨rfl, hJ2, hk2, hP2⟩ | ⟨rfl, hJx2⟩)
  rotate_left
  · gi_wp2
    refine bodyPost_ret (v := .tuple #[]) (by simp [results, go_sem]) rfl ⟨⟨_, rfl⟩, .inr ⟨_, trivial, hJx2⟩⟩
  have hb2 := hk2.same _ _ HB.out rfl
  clear m0 m1 m2 m3 m4 hy hR hb
  obtain ⟨m0, m1, m2, m3, m4⟩ := row5 hb2
  have J2 := Lib.hid hJ2
  have K2 := Lib.hid hk2
  have P2 := Lib.hid hP2
  have K45 := Lib.hid (put_row at_ 4 (by omega) (by omega) W2)
  clear hJ2 hk2 hP2
  gi_wp2_with (refine ⟨trivial, rfl, (callsIn_wide.2 K45.out).mono ?_⟩; rintro e W3 ⟨g3, c3, rfl, hrow3, hE3⟩; obtain ⟨fn, tmps, assign, body, hy, hR⟩ := yield_part (cap := c3) (g := g3) HY.out HJ.out (bs := bytesOf at_ 4) (rest := [[code]]) (m := 4) P2.out J2.out K2.out hE3 hrow3 (bytesOf_len _ _) (by omega) (by omega))
  refine ⟨rfl, hR.mono ?_⟩
  rintro e W4 (⟨rfl, hJ4, hk4, hP4⟩ | ⟨rfl, hJx4⟩)
  rotate_left
  · gi_wp2_with fail
    refine ⟨fun _ h => (nomatch h), ?_⟩
    gi_wp2
    refine bodyPost_ret (v := .tuple #[]) (by simp [results, go_sem]) rfl ⟨⟨_, rfl⟩, .inr ⟨_, trivial, hJx4⟩⟩
  have hb4 := hk4.same _ _ HB.out rfl
  clear m0 m1 m2 m3 m4 hy hR hb2
  obtain ⟨m0, m1, m2, m3, m4⟩ := row5 hb4
  obtain ⟨fn, tmps, assign, body, hy, hR⟩ := yield_part (cap := 1) HY.out HJ.out (bs := [code]) (rest := []) (m := 1) hP4 hJ4 hk4 ((Ext.refl W4).alloc _) (w2 := W4.alloc (.cells #[.int .u8 code] 5)) (row_new (w := W4) (t := 5) [code] (by simpa using hc)) rfl (by omega) (by omega)
  clear hJ4 hk4 hP4
  gi_wp2
  refine ⟨rfl, hR.mono ?_⟩
  rintro e W5 (⟨rfl, hJ5, hk5, hP5⟩ | ⟨rfl, hJx5⟩)
  · gi_wp2
    refine bodyPost_ret (v := .tuple #[]) (by simp [results, go_sem]) rfl ⟨⟨_, rfl⟩, .inl ⟨_, by simpa using hP5, hJ5⟩⟩
  · gi_wp2
    refine bodyPost_ret (v := .tuple #[]) (by simp [results, go_sem]) rfl ⟨⟨_, rfl⟩, .inr ⟨_, trivial, hJx5⟩⟩

end Go.Proofs.Ytcbneobdelbhlaa
