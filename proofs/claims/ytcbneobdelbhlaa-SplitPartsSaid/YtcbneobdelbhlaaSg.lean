/-
  Package split: Join.
-/
import Derived.Test.YtcbneobdelbhlaaSf
import Derived.Laws.AppendOwnNone
namespace Go.Proofs.Ytcbneobdelbhlaa
open Go.RowKit Go.Shelf

/-- A slice of bytes that Join reads. -/
structure JX where
  A : Option Addr
  cap : Nat
  bytes : List Int
def JX.val (x : JX) : Value := .slice x.A x.bytes.length x.cap
def JX.Reads (W : World) (x : JX) : Prop := (x.A = none ∧ x.bytes = [] ∧ x.cap = 0) ∨ ∃ b off, x.A = some ⟨b, off, none⟩ ∧ Row W b off x.bytes
theorem JX.Reads.ext {A B : World} {x : JX} (h : x.Reads A) (hE : Ext A B) : x.Reads B := h.imp id (fun ⟨b, off, h1, h2⟩ => ⟨b, off, h1, hE.row h2⟩)

/-- The script of pieces' bytes. -/
def joinD (l : List (List Int)) : List Int := l.flatMap fun b => (b.length : Int) :: b
theorem joinD_snoc (l : List (List Int)) (b : List Int) : joinD (l ++ [b]) = joinD l ++ ((b.length : Int) :: b) := by simp [joinD]
theorem joinD_len : ∀ (l : List (List Int)), (∀ b ∈ l, b.length ≤ 255) → (joinD l).length ≤ 256 * l.length
  | [], _ => by simp [joinD]
  | b :: l, h => by
    have := joinD_len l (fun c hc => h c (List.mem_cons_of_mem _ hc))
    have h0 := h b (by simp)
    simp only [joinD, List.flatMap_cons, List.length_append, List.length_cons] at this ⊢
    omega

theorem und44 : Try.prog.underlying 44 = some (.slice 30) := by kernel_rfl

set_option maxHeartbeats 4000000 in
set_option maxRecDepth 100000 in
theorem join_any (gl k cap : Nat) (l : List JX) (w : World) (hk : l.length = k) (hm : k ≤ 5000) (h255 : ∀ x ∈ l, x.bytes.length ≤ 255)
    (hrow : ∀ j x, l[j]? = some x → w.cell? ⟨gl, j, none⟩ = some x.val) (hreads : ∀ x ∈ l, x.Reads w) :
    Calls Try.prog 22 #[.slice (some ⟨gl, 0, none⟩) k cap] w fun e w' => ∃ v, e = .returned (.tuple #[v, .int .i64 0]) ∧ w'.ownsRow w.heap.size 5 1 v (joinD (l.map JX.bytes)).length ((joinD (l.map JX.bytes)).map (Value.int .u8)) ∧ Ext w w' := by
  obtain ⟨i0, hi, hz0, hz1, hz2⟩ := info_parts info5
  have HK := Lib.hid hk
  have H255 := Lib.hid h255
  have HR := Lib.hid hrow
  have HD := Lib.hid hreads
  clear hk h255 hrow hreads
  have p2 : (k : Int) ≤ 5000 := by omega
  go_enter Try.func22, Try.ntmps22
  go_wp2
  go_loopw [2, 8] (fun v i wr => ∃ (j n : Nat) (cs : List Value), j ≤ k ∧ i = .int .i64 j ∧ n = (joinD ((l.take j).map JX.bytes)).length ∧ cs = (joinD ((l.take j).map JX.bytes)).map (Value.int .u8) ∧ wr.ownsRow w.heap.size 5 1 v n cs ∧ Ext w wr) (fun _ i _ => k - (intOf i).toNat)
  case atStart => exact ⟨0, 0, [], Nat.zero_le _, rfl, rfl, rfl, World.ownsRow_nil _ _ _ _, Ext.refl w⟩
  case round =>
    obtain ⟨j, n, cs, hj, rfl, hn, hcs, hown, hE⟩ := hrel
    by_cases hlt : j < k
    · obtain ⟨x, hx⟩ : ∃ x, l[j]? = some x := ⟨l[j]'(by rw [HK.out]; exact hlt), by simp⟩
      have hmem := List.mem_of_getElem? hx
      have hc := hE.cell (HR.out j x hx)
      have h5 := H255.out x hmem
      have hd := HD.out x hmem
      have hjoin : joinD ((l.take (j + 1)).map JX.bytes) = joinD ((l.take j).map JX.bytes) ++ ((x.bytes.length : Int) :: x.bytes) := by
        rw [List.take_add_one, hx]
        simp [joinD]
      have hn5 : n ≤ 1280000 := by
        have := joinD_len ((l.take j).map JX.bytes) (by
          intro b hb
          obtain ⟨y, hy, rfl⟩ := List.mem_map.1 hb
          exact H255.out y (List.mem_of_mem_take hy))
        rw [List.length_map, List.length_take] at this
        rw [hn]
        omega
      obtain ⟨A, cp, zs⟩ := x
      simp only [JX.val] at hc hjoin
      dsimp only at h5
      have X := Lib.hid (And.intro hn (And.intro hcs (And.intro hown (And.intro hE (And.intro hjoin hx)))))
      clear hn hcs hown hE hjoin hx hmem
      rcases hd with ⟨rfl, hz, rfl⟩ | ⟨b, off, hA, hr⟩
      · dsimp only at hz
        subst hz
        simp only [List.length_nil] at hc
        clear h5
        go_wp2_with (first | (at_builtin; refine wpList_append_own _ rfl (.tmp 15) (.tmp 19) 30 (by rfl) w.heap.size 5 i0 (.int .u8 0) 1 1 und30 hi hz0 hz1 hz2 rfl (by omega) u2 n cs (by rfl) (X.out.2.2.1.alloc _) ⟨wr.heap.size, 0, none⟩ 1 1 [.int .u8 (0)] (by rfl) (by rfl) (news_new wr 5 [.int .u8 (0)]) (by intro u hu; simp at hu; subst hu; rfl) (by unfold maxLen; omega) (by omega) (by have := Below.size X.out.2.2.2.1; simp; omega) ?_; intro v1 w1 hown1 hg1 hnil1; obtain ⟨g1, cap1, rfl, hg1b, _⟩ := hown1.form (by omega); have E1 : Ext w w1 := Below.grown (X.out.2.2.2.1.alloc _) hg1 (by have := Below.size X.out.2.2.2.1; simp; omega) (fun q hq => (X.out.2.2.1.lt q hq).1); have Y1 := Lib.hid (And.intro hown1 E1); clear hown1 hg1 hnil1 E1 hg1b) | (refine wpList_append_own_none rfl (.tmp 21) (.tmp 22) 30 (by rfl) w.heap.size 5 i0 1 und30 hi (.slice (some ⟨g1, 0, none⟩) (n + 1) cap1) (n + 1) (cs ++ [.int .u8 0]) (by rfl) Y1.out.1 (by rfl) ?_))
        go_roundw
        case rel => exact ⟨j + 1, n + 1, _, by omega, by go_num, by rw [X.out.2.2.2.2.1, List.length_append, ← X.out.1]; rfl, by rw [X.out.2.2.2.2.1, List.map_append, ← X.out.2.1]; rfl, Y1.out.1, Y1.out.2⟩
        case measure => simp [intOf]; omega
      · dsimp only at hA hr
        subst hA
        have HR1 := Lib.hid hr
        clear hr
        generalize hm : zs.length = m at *
        have HM := Lib.hid hm
        clear hm
        have q1 : (m : Int) ≤ 255 := by omega
        have q2 : (0 : Int) ≤ (m : Int) := by omega
        have q3 : decide (255 < (m : Int)) = false := by simpa using q1
        go_wp2_with (first | (at_builtin; refine wpList_append_own _ rfl (.tmp 15) (.tmp 19) 30 (by rfl) w.heap.size 5 i0 (.int .u8 0) 1 1 und30 hi hz0 hz1 hz2 rfl (by omega) u2 n cs (by rfl) (X.out.2.2.1.alloc _) ⟨wr.heap.size, 0, none⟩ 1 1 [.int .u8 m] (by rfl) (by rfl) (news_new wr 5 [.int .u8 m]) (by intro u hu; simp at hu; subst hu; rfl) (by unfold maxLen; omega) (by omega) (by have := Below.size X.out.2.2.2.1; simp; omega) ?_; intro v1 w1 hown1 hg1 hnil1; obtain ⟨g1, cap1, rfl, hg1b, _⟩ := hown1.form (by omega); have E1 : Ext w w1 := Below.grown (X.out.2.2.2.1.alloc _) hg1 (by have := Below.size X.out.2.2.2.1; simp; omega) (fun q hq => (X.out.2.2.1.lt q hq).1); have Y1 := Lib.hid (And.intro hown1 E1); clear hown1 hg1 hnil1 E1 hg1b) | (at_builtin; refine wpList_append_own _ rfl (.tmp 21) (.tmp 22) 30 (by rfl) w.heap.size 5 i0 (.int .u8 0) 1 1 und30 hi hz0 hz1 hz2 rfl (by omega) (.slice (some ⟨g1, 0, none⟩) (n + 1) cap1) (n + 1) (cs ++ [.int .u8 m]) (by rfl) Y1.out.1 ⟨b, off, none⟩ m cp (zs.map (Value.int .u8)) (by rfl) (by simp [HM.out]) (row_news (b := b) (Y1.out.2.row HR1.out) HM.out) (by intro u hu; simp at hu; obtain ⟨_, _, rfl⟩ := hu; rfl) (by unfold maxLen; omega) (by omega) (Below.size Y1.out.2) ?_; intro v2 w2 hown2 hg2 hnil2; obtain ⟨g2, cap2, rfl, _, _⟩ := hown2.form (by omega); have E2 : Ext w w2 := Below.grown Y1.out.2 hg2 (Below.size Y1.out.2) (fun q hq => (Y1.out.1.lt q hq).1); have Y2 := Lib.hid (And.intro hown2 E2); clear hown2 hg2 hnil2 E2))
        go_roundw
        case rel => exact ⟨j + 1, n + 1 + m, _, by omega, by go_num, by rw [X.out.2.2.2.2.1, List.length_append, List.length_cons, HM.out, ← X.out.1]; omega, by rw [X.out.2.2.2.2.1, List.map_append, List.map_cons, ← X.out.2.1]; simp, Y2.out.1, Y2.out.2⟩
        case measure => simp [intOf]; omega
    · have e : j = k := by omega
      have ht : (l.take j).map JX.bytes = l.map JX.bytes := by rw [List.take_of_length_le (by rw [HK.out]; omega)]
      rw [ht] at hn hcs
      have X := Lib.hid (And.intro hn (And.intro hcs (And.intro hown hE)))
      clear hn hcs hown hE ht
      go_wp2
      go_ret2
      exact ⟨_, rfl, by rw [← X.out.1, ← X.out.2.1]; exact X.out.2.2.1, X.out.2.2.2⟩

end Go.Proofs.Ytcbneobdelbhlaa
