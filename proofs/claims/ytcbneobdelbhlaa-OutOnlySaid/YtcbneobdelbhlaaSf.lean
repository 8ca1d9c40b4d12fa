/-
  Law 06: same; the reference 06: Pieces, Same (where both sides are the same).
-/
import Derived.Test.YtcbneobdelbhlaaSe
namespace Go.Proofs.Ytcbneobdelbhlaa
open Go.RowKit Go.Shelf

/-- Bytes that become a string. -/
def Conv (W : World) (v : Value) (zs : List Int) : Prop := (convert 30 9 v).run Try.prog W = .ok (.string (strOfNums zs)) W
theorem und9 : Try.prog.underlying 9 = some .string := by kernel_rfl
theorem Conv.of_row {W : World} {b off n cap : Nat} {zs : List Int} (h : Row W b off zs) (hn : zs.length = n) : Conv W (.slice (some ⟨b, off, none⟩) n cap) zs :=
  run_convert_bytes_arg W 30 5 und30 und5 b off n cap zs hn (fun i hi => h.cell i (by omega)) 9 und9
theorem Conv.zero (W : World) (A : Option Addr) (cap : Nat) : Conv W (.slice A 0 cap) [] := by
  rcases A with _ | A
  · exact run_convert_bytes_nil W 30 5 und30 und5 0 cap 9 und9
  · unfold Conv
    rw [run_convert_bytes_string W 30 9 5 _ 0 cap und30 und5 und9, run_bytesToString W A 0 cap [] (by simp [loadCells, loadCellsFrom])]
    rfl

set_option maxHeartbeats 400000 in
theorem same_true (A B : Option Addr) (n c n' c' : Nat) (zs : List Int) (w : World) (h1 : Conv w (.slice A n c) zs) (h2 : Conv w (.slice B n' c') zs) :
    Calls Try.prog 21 #[.slice A n c, .slice B n' c'] w fun e w' => e = .returned (.bool true) ∧ w = w' := by
  unfold Conv at h1 h2
  generalize strOfNums zs = S at *
  go_enter Try.func21, Try.ntmps21
  go_wp2
  go_ret
  exact ⟨rfl, rfl⟩

/-- What lies at a place of a row of threes. -/
theorem flat_at {α : Type} (f : α → List Value) (m : Nat) (hf : ∀ a, (f a).length = m) : ∀ (l : List α) (j o : Nat) (a : α), l[j]? = some a → o < m → (l.flatMap f)[j * m + o]? = (f a)[o]?
  | [], j, o, a, h, _ => by simp at h
  | x :: l, 0, o, a, h, ho => by
    simp at h; subst h
    rw [List.flatMap_cons, List.getElem?_append_left (by rw [hf]; omega)]
    simp
  | x :: l, j + 1, o, a, h, ho => by
    have := flat_at f m hf l j o a (by simpa using h) ho
    rw [List.flatMap_cons, List.getElem?_append_right (by rw [hf, Nat.succ_mul]; omega), hf, ← this]
    congr 1
    rw [Nat.succ_mul]; omega

structure PiecesAt (W : World) (base : Nat) (v : Value) (xs : List PX) : Prop where
  row : W.ownsRow base 46 3 v xs.length (xs.flatMap PX.cells)
  own : ∀ x ∈ xs, x.Owns W

theorem PiecesAt.cell {W : World} {base g n cap : Nat} {xs : List PX} (h : PiecesAt W base (.slice (some ⟨g, 0, none⟩) n cap) xs) {j : Nat} {x : PX} (hj : xs[j]? = some x) :
    W.cell? ⟨g, j * 3, none⟩ = some (.int .i64 x.d.at_) ∧ W.cell? ⟨g, j * 3 + 1, none⟩ = some (.slice (some ⟨x.g, 0, none⟩) x.d.bytes.length x.cap) ∧ W.cell? ⟨g, j * 3 + 2, none⟩ = some (.bool x.d.cut) := by
  have hl : j < xs.length := (List.getElem?_eq_some_iff.1 hj).1
  have hn : n = xs.length := by
    rcases h.row.2 with ⟨h, _⟩ | ⟨_, _, _, hv, _⟩
    · cases h
    · injection hv
  subst hn
  refine ⟨?_, ?_, ?_⟩
  · rw [h.row.cellAt (j * 3) (by omega), ← Nat.add_zero (j * 3), flat_at PX.cells 3 (fun _ => rfl) xs j 0 x hj (by decide)]; rfl
  · rw [h.row.cellAt (j * 3 + 1) (by omega), flat_at PX.cells 3 (fun _ => rfl) xs j 1 x hj (by decide)]; rfl
  · rw [h.row.cellAt (j * 3 + 2) (by omega), flat_at PX.cells 3 (fun _ => rfl) xs j 2 x hj (by decide)]; rfl

theorem PiecesAt.ext {A B : World} {base : Nat} {v : Value} {xs : List PX} (h : PiecesAt A base v xs) (hE : Ext A B) : PiecesAt B base v xs := ⟨owns_ext h.row hE, fun x hx => owns_ext (h.own x hx) hE⟩

theorem PX.conv {W : World} {x : PX} (h : x.Owns W) (hb : ∀ z ∈ x.d.bytes, 0 ≤ z ∧ z ≤ 255) : Conv W (.slice (some ⟨x.g, 0, none⟩) x.d.bytes.length x.cap) x.d.bytes :=
  Conv.of_row (row_of_own h hb).1 rfl

/-- Two places of rows of pieces that read the same. -/
def SameAt (w : World) (g g' j : Nat) : Prop := ∃ (at_ : Nat) (cut : Bool) (zs : List Int) (A B : Option Addr) (n c n' c' : Nat),
  w.cell? ⟨g, j * 3, none⟩ = some (.int .i64 at_) ∧ w.cell? ⟨g, j * 3 + 1, none⟩ = some (.slice A n c) ∧ w.cell? ⟨g, j * 3 + 2, none⟩ = some (.bool cut) ∧
  w.cell? ⟨g', j * 3, none⟩ = some (.int .i64 at_) ∧ w.cell? ⟨g', j * 3 + 1, none⟩ = some (.slice B n' c') ∧ w.cell? ⟨g', j * 3 + 2, none⟩ = some (.bool cut) ∧
  ∀ W, Ext w W → Conv W (.slice A n c) zs ∧ Conv W (.slice B n' c') zs

set_option maxHeartbeats 2000000 in
theorem rpieces_core (g g' k cap cap' : Nat) (w : World) (hm : k ≤ 5000) (h : ∀ j, j < k → SameAt w g g' j) :
    Calls Try.prog 24 #[.slice (some ⟨g, 0, none⟩) k cap, .slice (some ⟨g', 0, none⟩) k cap'] w fun e w' => e = .returned (.bool true) ∧ Ext w w' := by
  have H := Lib.hid h
  clear h
  have p2 : (k : Int) ≤ 5000 := by omega
  go_enter Try.func24, Try.ntmps24
  go_wp2
  go_loopw [5] (fun i wr => ∃ j : Nat, j ≤ k ∧ i = .int .i64 j ∧ Ext w wr) (fun i _ => k - (intOf i).toNat)
  case atStart => exact ⟨0, Nat.zero_le _, rfl, Ext.refl w⟩
  case round =>
    obtain ⟨j, hj, rfl, hE⟩ := hrel
    by_cases hlt : j < k
    · obtain ⟨at_, cut, zs, A, B, n, c, n', c', a0, a1, a2, b0, b1, b2, hcv⟩ := H.out j hlt
      replace a0 := hE.cell a0
      replace a1 := hE.cell a1
      replace a2 := hE.cell a2
      replace b0 := hE.cell b0
      replace b1 := hE.cell b1
      replace b2 := hE.cell b2
      have c1 := fun z => (hcv (mix wr z) (hE.trans (mix_below wr z))).1
      have c2 := fun z => (hcv (mix wr z) (hE.trans (mix_below wr z))).2
      unfold Conv at c1 c2
      generalize strOfNums zs = S at *
      have HE := Lib.hid hE
      clear hE hcv
      have z0 : (0 : Int) ≤ (j : Int) := by omega
      have z1 : (j : Int) < (k : Int) := by omega
      go_wp2_with fail
      refine wp_region_mix (by kernel_rfl) (by kernel_rfl) ?_
      repeat quiet_step (fail)
      refine wpQuiet_nil ?_
      rintro _ ⟨z, rfl⟩
      go_wp2
      go_roundw
      case rel => exact ⟨j + 1, by omega, by go_num, HE.out.trans (mix_below _ _)⟩
      case measure => simp [intOf]; omega
    · have HE := Lib.hid hE
      clear hE
      go_wp2
      go_ret
      exact ⟨rfl, HE.out⟩

theorem rpieces_true (g g' k cap cap' base base' : Nat) (xs ys : List PX) (w : World) (hk : xs.length = k) (hm : k ≤ 5000) (hxy : xs.map PX.d = ys.map PX.d)
    (h1 : PiecesAt w base (.slice (some ⟨g, 0, none⟩) k cap) xs) (h2 : PiecesAt w base' (.slice (some ⟨g', 0, none⟩) k cap') ys) (hb : ∀ x ∈ xs, ∀ z ∈ x.d.bytes, 0 ≤ z ∧ z ≤ 255) :
    Calls Try.prog 24 #[.slice (some ⟨g, 0, none⟩) k cap, .slice (some ⟨g', 0, none⟩) k cap'] w fun e w' => e = .returned (.bool true) ∧ Ext w w' := by
  refine rpieces_core g g' k cap cap' w hm fun j hlt => ?_
  obtain ⟨x, hx⟩ : ∃ x, xs[j]? = some x := ⟨xs[j]'(by rw [hk]; exact hlt), by simp⟩
  have hyj : ys[j]?.map PX.d = some x.d := by rw [← List.getElem?_map, ← hxy, List.getElem?_map, hx]; rfl
  obtain ⟨y, hy, hxy⟩ : ∃ y, ys[j]? = some y ∧ y.d = x.d := by
    rcases hh : ys[j]? with _ | y
    · rw [hh] at hyj; cases hyj
    · rw [hh] at hyj; exact ⟨y, rfl, by simpa using hyj⟩
  have hbx := hb x (List.mem_of_getElem? hx)
  obtain ⟨a0, a1, a2⟩ := h1.cell hx
  obtain ⟨b0, b1, b2⟩ := h2.cell hy
  have k1 := fun W (h : Ext w W) => PX.conv (owns_ext (h1.own x (List.mem_of_getElem? hx)) h) hbx
  have k2 := fun W (h : Ext w W) => PX.conv (owns_ext (h2.own y (List.mem_of_getElem? hy)) h) (by rw [hxy]; exact hbx)
  rw [hxy] at b0 b1 b2 k2
  exact ⟨_, _, _, _, _, _, _, _, _, a0, a1, a2, b0, b1, b2, fun W h => ⟨k1 W h, k2 W h⟩⟩

theorem rpieces_nil (w : World) (A B : Option Addr) (c c' : Nat) : Calls Try.prog 24 #[.slice A 0 c, .slice B 0 c'] w fun e w' => e = .returned (.bool true) ∧ Ext w w' := by
  go_enter Try.func24, Try.ntmps24
  go_wp2
  refine wp_loop_rounds 1 ?_
  rw [rounds_succ]; go_wp2
  go_ret
  exact ⟨rfl, Ext.refl w⟩

def RowOf (W : World) (base : Nat) (v : Value) (rs : List RecD) : Prop := W.ownsRow base 34 8 v rs.length (rs.flatMap RecD.cells)

theorem RowOf.cell {W : World} {base g n cap : Nat} {rs : List RecD} (h : RowOf W base (.slice (some ⟨g, 0, none⟩) n cap) rs) {j : Nat} {r : RecD} (hj : rs[j]? = some r) (o : Nat) (ho : o < 8) : W.cell? ⟨g, j * 8 + o, none⟩ = r.cells[o]? := by
  have hl : j < rs.length := (List.getElem?_eq_some_iff.1 hj).1
  have hn : n = rs.length := by
    rcases h.2 with ⟨h, _⟩ | ⟨_, _, _, hv, _⟩
    · cases h
    · injection hv
  subst hn
  rw [World.ownsRow.cellAt h (j * 8 + o) (by omega), flat_at RecD.cells 8 (fun _ => rfl) rs j o r hj ho]

set_option maxHeartbeats 2000000 in
theorem rrecs_true (g g' k cap cap' base base' : Nat) (rs : List RecD) (w : World) (hk : rs.length = k) (hm : k ≤ 10000) (hi : ∀ r ∈ rs, r.inside = true)
    (h1 : RowOf w base (.slice (some ⟨g, 0, none⟩) k cap) rs) (h2 : RowOf w base' (.slice (some ⟨g', 0, none⟩) k cap') rs) :
    Calls Try.prog 25 #[.slice (some ⟨g, 0, none⟩) k cap, .slice (some ⟨g', 0, none⟩) k cap'] w fun e w' => e = .returned (.bool true) ∧ Ext w w' := by
  have H1 := Lib.hid h1
  have H2 := Lib.hid h2
  have HI := Lib.hid hi
  have HK := Lib.hid hk
  clear h1 h2 hi hk
  have p2 : (k : Int) ≤ 10000 := by omega
  go_enter Try.func25, Try.ntmps25
  go_wp2
  go_loopw [5] (fun i wr => ∃ j : Nat, j ≤ k ∧ i = .int .i64 j ∧ Ext w wr) (fun i _ => k - (intOf i).toNat)
  case atStart => exact ⟨0, Nat.zero_le _, rfl, Ext.refl w⟩
  case round =>
    obtain ⟨j, hj, rfl, hE⟩ := hrel
    by_cases hlt : j < k
    · obtain ⟨r, hr⟩ : ∃ r, rs[j]? = some r := ⟨rs[j]'(by rw [HK.out]; exact hlt), by simp⟩
      have a := fun o ho => hE.cell ((H1.out.cell hr o ho).trans (List.getElem?_eq_getElem (by exact ho)))
      have b := fun o ho => hE.cell ((H2.out.cell hr o ho).trans (List.getElem?_eq_getElem (by exact ho)))
      have HS := rsame_rec r r (HI.out r (List.mem_of_getElem? hr)) (HI.out r (List.mem_of_getElem? hr))
      rw [RecD.same_self] at HS
      have HS' := Lib.hid HS
      obtain ⟨kd, ts, src, seq, ek, px, py, rs', rt⟩ := r
      simp only [RecD.val] at HS'
      have a0 := a 0 (by decide)
      have a1 := a 1 (by decide)
      have a2 := a 2 (by decide)
      have a3 := a 3 (by decide)
      have a4 := a 4 (by decide)
      have a5 := a 5 (by decide)
      have a6 := a 6 (by decide)
      have a7 := a 7 (by decide)
      have b0 := b 0 (by decide)
      have b1 := b 1 (by decide)
      have b2 := b 2 (by decide)
      have b3 := b 3 (by decide)
      have b4 := b 4 (by decide)
      have b5 := b 5 (by decide)
      have b6 := b 6 (by decide)
      have b7 := b 7 (by decide)
      simp only [RecD.cells, List.getElem_cons_zero, List.getElem_cons_succ, Nat.add_zero] at a0 a1 a2 a3 a4 a5 a6 a7 b0 b1 b2 b3 b4 b5 b6 b7
      have HE := Lib.hid hE
      clear a b HS hE hr
      have z0 : (0 : Int) ≤ (j : Int) := by omega
      have z1 : (j : Int) < (k : Int) := by omega
      go_wp2_with fail
      refine wp_region_mix (by kernel_rfl) (by kernel_rfl) ?_
      repeat quiet_step ((go_at_call 18; with_reducible exact Calls.mix_of (HS'.out _)))
      refine wpQuiet_nil ?_
      rintro _ ⟨z, rfl⟩
      go_wp2
      go_roundw
      case rel => exact ⟨j + 1, by omega, by go_num, HE.out.trans (mix_below _ _)⟩
      case measure => simp [intOf]; omega
    · have HE := Lib.hid hE
      clear hE
      go_wp2
      go_ret
      exact ⟨rfl, HE.out⟩

theorem rrecs_nil (w : World) (A B : Option Addr) (c c' : Nat) : Calls Try.prog 25 #[.slice A 0 c, .slice B 0 c'] w fun e w' => e = .returned (.bool true) ∧ Ext w w' := by
  go_enter Try.func25, Try.ntmps25
  go_wp2
  refine wp_loop_rounds 1 ?_
  rw [rounds_succ]; go_wp2
  go_ret
  exact ⟨rfl, Ext.refl w⟩

end Go.Proofs.Ytcbneobdelbhlaa
