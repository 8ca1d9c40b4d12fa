/-
  Package out: Put. The way out behind many ranges; a general box that grows.
  Package out: an out in memory; what may be, and its parts.
  Plain laws of out.Take: what bytes are of; a byte less.
-/
import Derived.Test.YtcbneobdelbhlaaOg
import Derived.Test.YtcbneobdelbhlaaWn
namespace Go.Proofs.Ytcbneobdelbhlaa
open Go.RowKit Go.Shelf

/-- The way out behind many loops over functions. -/
theorem leaves_many {P : Program} {fn : Func} {R : Ending → World → Prop} {tmps : Array Value} {v : Value} {T : World → Prop} (hr : ∀ W, (results fn tmps).run P W = .ok v W) (hR : ∀ W, T W → R (.returned v) W) :
    ∀ (Ds : List Nat) (W : World), Ds.Nodup → (∀ D ∈ Ds, W.heap[D]? = some (.deferred (some []))) → (∀ D A, D ∈ Ds → A.heap[D]? = some (.deferred (some [])) → T A → T (A.putObj D (.deferred none))) → T W →
      LeavesInM Fence.wide 0 P fn tmps R (Ds.map fun D => { target := .collected D, args := #[] }) .returning W
  | [], W, _, _, _, h => ⟨_, hr W, hR W h⟩
  | D :: Ds, W, hn, hd, hT, h => by
    have hK := hd D (by simp)
    refine ⟨by simp, .inl ⟨_, _, rfl, run_takeDeferred hK, ?_⟩⟩
    rw [List.nodup_cons] at hn
    refine leaves_many hr hR Ds _ hn.2 (fun E hE => ?_) (fun E A hE => hT E A (List.mem_cons_of_mem _ hE)) (hT D W (by simp) hK h)
    rw [World.putObj_heap_other (fun e => hn.1 (by subst e; exact hE))]
    exact hd E (List.mem_cons_of_mem _ hE)

/-- A box n0 of bytes that grows in a round: the iterator's blocks hold other types. -/
theorem box_grow {n0 c k m : Nat} {w W w2 : World} {v v' : Value} {xs news : List Value} {Kz : Nat → Prop}
    (hbw : Below n0 w W) (hbox : W.heap[n0]? = some (.cells #[v] 30 (0, 0))) (hown : W.ownsRow (n0 + 1) 5 1 v k xs)
    (hown' : w2.ownsRow (n0 + 1) 5 1 v' (k + m) (xs ++ news)) (hg : W.grownBy w2 v.ownBlock) (hs : n0 + 1 ≤ W.heap.size)
    (hKz : ∀ i, Kz i → i ≠ n0 ∧ ∃ cs t, t ≠ 5 ∧ W.heap[i]? = some (.cells cs t (0, 0))) :
    w2.cell? ⟨n0, 0, none⟩ = some v ∧ w2.frozen? ⟨n0, 0, none⟩ = false ∧ Kept (ZB c Kz) W (w2.setCell ⟨n0, 0, none⟩ v') ∧ Below n0 w (w2.setCell ⟨n0, 0, none⟩ v') ∧
    (w2.setCell ⟨n0, 0, none⟩ v').heap[n0]? = some (.cells #[v'] 30 (0, 0)) ∧ (w2.setCell ⟨n0, 0, none⟩ v').ownsRow (n0 + 1) 5 1 v' (k + m) (xs ++ news) ∧ n0 + 1 ≤ (w2.setCell ⟨n0, 0, none⟩ v').heap.size ∧
    ∀ i, i < W.heap.size → i ≠ n0 → v.ownBlock ≠ some i → (w2.setCell ⟨n0, 0, none⟩ v').heap[i]? = W.heap[i]? := by
  have hrow : ∀ j, v.ownBlock = some j → n0 + 1 ≤ j := fun j hj => (hown.lt j hj).1
  have h2 : w2.heap[n0]? = some (.cells #[v] 30 (0, 0)) := (hg.block n0 (by omega) (fun e => by have := hrow n0 e.symm; omega)).trans hbox
  have hs2 := hg.size
  refine ⟨cell_of_one h2, free_of_one h2, ZB_set (Kept.grown (Kept.refl _ _) hg ?_) (cell_of_one h2) ?_ _, ?_, one_setCell h2, ?_, ?_, ?_⟩
  · intro j o hj ho hz
    rcases hown.2 with ⟨rfl, _⟩ | ⟨g, cap, cur, rfl, hg', hh, _⟩
    · simp [Value.ownBlock] at hj
    · have : g = j := by simpa [Value.ownBlock] using hj
      subst this
      rcases hz with hz | ⟨_, hz⟩
      · obtain ⟨_, cs, t, ht, hb⟩ := hKz g hz
        rw [hh] at hb
        injection hb with hb
        injection hb with _ hb
        exact ht hb.symm
      · rw [hh] at ho
        cases ho
        cases hz
  · intro hz; exact (hKz _ hz).1 rfl
  · exact (hbw.grown hg (by omega) (fun j hj => by have := hrow j hj; omega)).setCell (p := ⟨n0, 0, none⟩) (Nat.le_refl _) _
  · exact ownsRow_setCell_below hown' (by simp) _
  · simp [World.setCell]; omega
  · intro i hi hn hv
    rw [Below.heap_setCell w2 ⟨n0, 0, none⟩ v' _ hn]
    exact hg.block i hi (fun e => hv e.symm)

end Go.Proofs.Ytcbneobdelbhlaa

namespace Go.Proofs.Ytcbneobdelbhlaa
open Go.RowKit Go.Shelf

/-- What goes out. -/
structure OutD where
  kd : Int
  row : List Int
  evs : List EvD
  at_ : Int
  code : Int

namespace OutD
def right (o : OutD) : Bool :=
  if o.kd = 3 then decide (0 < o.code) && decide (o.code < 8) else if o.row = [] then false else rightM o.row o.evs
def parts (o : OutD) : List (List Int) := if o.kd = 3 then partsS o.at_ o.code else partsM o.kd o.row o.evs
def bytes (o : OutD) : List Int := o.parts.flatten
/-- The outs that the walks meet. -/
inductive Fit (o : OutD) : Prop
  | side (k : o.kd = 3) (r : o.row = []) (e : o.evs = []) (a0 : 0 ≤ o.at_) (a1 : o.at_ < 4294967296) (c0 : 0 ≤ o.code) (c1 : o.code ≤ 255)
  | none (k : o.kd = 0 ∨ o.kd = 1) (r : o.row = []) (e : o.evs = []) (a : o.at_ = 0) (c : o.code = 0)
  | told (k : o.kd = 1 ∨ o.kd = 2) (a : o.at_ = 0) (c : o.code = 0) (r1 : 1 ≤ o.row.length) (r2 : o.row.length ≤ 4) (e : o.evs.length = o.row.length) (hin : ∀ e ∈ o.evs, e.inside)
end OutD

/-- An out in memory. -/
structure OX where
  d : OutD
  b : Nat
  cap : Nat
  b' : Nat
  cap' : Nat

namespace OX
def rowV (x : OX) : Value := if x.d.row = [] then .slice none 0 0 else .slice (some ⟨x.b, 0, none⟩) x.d.row.length x.cap
def evsV (x : OX) : Value := if x.d.row = [] then .slice none 0 0 else .slice (some ⟨x.b', 0, none⟩) x.d.row.length x.cap'
def cells (x : OX) : List Value := [.int .u8 x.d.kd, x.rowV, x.evsV, .int .i64 x.d.at_, .int .u8 x.d.code]
def val (x : OX) : Value := .agg #[.int .u8 x.d.kd, x.rowV, x.evsV, .int .i64 x.d.at_, .int .u8 x.d.code]
structure At (W : World) (x : OX) : Prop where
  fit : x.d.Fit
  row : IntRow W x.b x.d.row
  evs : EvRow W x.b' x.d.evs
  blk : x.d.row ≠ [] → (∃ cs, W.heap[x.b]? = some (.cells cs 3 (0, 0))) ∧ ∃ cs, W.heap[x.b']? = some (.cells cs 32 (0, 0))

theorem At.ext {W W' : World} {x : OX} (h : x.At W) (hE : Ext W W') : x.At W' :=
  ⟨h.fit, hE.introw h.row, hE.evrow h.evs, fun hn => ⟨let ⟨cs, hc⟩ := (h.blk hn).1; ⟨cs, hE.heap hc⟩, let ⟨cs, hc⟩ := (h.blk hn).2; ⟨cs, hE.heap hc⟩⟩⟩
end OX

theorem oright_any (x : OX) (w : World) (h : x.At w) : Calls Try.prog 30 #[x.val] w fun e w' => e = .returned (.bool x.d.right) ∧ Ext w w' := by
  obtain ⟨⟨kd, row, evs, at_, code⟩, b, cap, b', cap'⟩ := x
  rcases h.fit with ⟨k, r, e, a0, a1, c0, c1⟩ | ⟨k, r, e, a, c⟩ | ⟨k, a, c, r1, r2, e, hin⟩
  · simp only at k r e a0 a1 c0 c1
    subst k r e
    exact oright_side at_ code a0 a1 c0 w
  · simp only at k r e a c
    subst r e a c
    have hn : ¬ kd = 3 := by omega
    have : (OutD.mk kd [] [] 0 0).right = false := by simp [OutD.right, hn]
    rw [this]
    exact oright_none kd k w
  · simp only at k a c r1 r2 e hin
    subst a c
    have hn : ¬ kd = 3 := by omega
    have hr : ¬ row = [] := by rintro rfl; simp at r1
    have : (OutD.mk kd row evs 0 0).right = rightM row evs := by simp [OutD.right, hn, hr]
    simp only [OX.val, OX.rowV, OX.evsV, this, if_neg hr]
    exact oright_match kd k b cap b' cap' row evs r1 r2 e hin w h.row h.evs

theorem oparts_raw (kd at_ code : Int) (A B : Option Addr) (n c m d : Nat) (w : World) :
    Calls Try.prog 67 #[.agg #[.int .u8 kd, .slice A n c, .slice B m d, .int .i64 at_, .int .u8 code]] w fun e w' =>
      e = .returned (.func (.func 89) #[] #[.pointer (some ⟨w.heap.size, 0, none⟩)]) ∧ w.alloc (.cells #[.int .u8 kd, .slice A n c, .slice B m d, .int .i64 at_, .int .u8 code] 64) = w' := by
  go_enter Try.func67, Try.ntmps67
  go_wp2
  go_ret
  exact ⟨rfl, rfl⟩

theorem oparts_any (x : OX) (w : World) : Calls Try.prog 67 #[x.val] w fun e w' =>
    e = .returned (.func (.func 89) #[] #[.pointer (some ⟨w.heap.size, 0, none⟩)]) ∧ w.alloc (.cells x.cells.toArray 64) = w' := by
  unfold OX.val OX.cells OX.rowV OX.evsV
  split
  · exact oparts_raw _ _ _ _ _ _ _ _ _ w
  · exact oparts_raw _ _ _ _ _ _ _ _ _ w

/-- What the iterator over an out's parts reads. -/
def OX.Reads (x : OX) (bo i : Nat) : Prop := i = bo ∨ (x.d.row ≠ [] ∧ (i = x.b ∨ i = x.b'))

theorem parts_any (x : OX) (bo : Nat) (w : World) (h : x.At w) (hr : x.d.right = true) (hb : w.heap[bo]? = some (.cells x.cells.toArray 64 (0, 0))) :
    SeqZ Try.prog 89 #[.pointer (some ⟨bo, 0, none⟩)] BX.enc (x.Reads bo) (fun _ => False) (PartOk x.d.parts) (fun xs => xs.map BX.bs = x.d.parts) (fun _ => True) w := by
  obtain ⟨⟨kd, row, evs, at_, code⟩, b, cap, b', cap'⟩ := x
  rcases h.fit with ⟨k, r, e, a0, a1, c0, c1⟩ | ⟨k, r, e, a, c⟩ | ⟨k, a, c, r1, r2, e, hin⟩
  · simp only at k r e a0 a1 c0 c1
    subst k r e
    have hR : (OX.mk ⟨3, [], [], at_, code⟩ b cap b' cap').Reads bo = fun i => i = bo := by funext i; simp [OX.Reads]
    rw [hR]
    exact parts_side bo at_ code ⟨c0, c1⟩ w hb
  · simp only at k r e a c
    subst r e a c
    have hn : ¬ kd = 3 := by omega
    simp [OutD.right, hn] at hr
  · simp only at k a c r1 r2 e hin
    subst a c
    have hn : ¬ kd = 3 := by omega
    have hrow : row ≠ [] := by rintro rfl; simp at r1
    have hR : (OX.mk ⟨kd, row, evs, 0, 0⟩ b cap b' cap').Reads bo = fun i => i = bo ∨ i = b ∨ i = b' := by funext i; simp [OX.Reads, hrow]
    have hP : (OutD.mk kd row evs 0 0).parts = partsM kd row evs := by simp [OutD.parts, hn]
    rw [hR]
    simp only [hP]
    simp only [OX.cells, OX.rowV, OX.evsV, if_neg hrow] at hb
    have hall : evs.all EvD.ok = true := by
      simp only [OutD.right, if_neg hn, if_neg hrow, rightM, Bool.and_eq_true] at hr
      exact hr.2.2.1
    exact parts_match bo b cap b' cap' kd k row evs r2 e hin hall w h.row h.evs hb

end Go.Proofs.Ytcbneobdelbhlaa

namespace Go.Proofs.Ytcbneobdelbhlaa
open Go.RowKit

def evOf (r : RecD) : EvD := ⟨r.ts, r.src, r.seq, r.ek, r.x, r.y⟩

theorem takeD_inside (zs : List Int) (h : ∀ x ∈ zs, 0 ≤ x ∧ x ≤ 255) : (evOf (takeD zs).1).inside := by
  rcases takeD_err zs with h0 | ⟨_, _, h0⟩ | ⟨_, _, h0⟩
  · exact (RecD.inside_iff _).1 (takeD_ok zs h h0).2.1
  · rw [h0]; exact ⟨by decide, by decide⟩
  · rw [h0]; exact ⟨by decide, by decide⟩

/-- The event i of a match of m steps. -/
def evAt (l : List Int) (m i : Nat) : EvD := evOf (takeD ((l.drop (1 + m + 20 * i)).take 20)).1

/-- What could be at the beginning of bytes. -/
def decO : List Int → OutD
  | [] => ⟨0, [], [], 0, 0⟩
  | k :: l => if k = 3 then ⟨3, [], [], numOf (l.take 4), l.getD 4 0⟩ else ⟨k, (l.drop 1).take (l.getD 0 0).toNat, (List.range (l.getD 0 0).toNat).map (evAt l (l.getD 0 0).toNat), 0, 0⟩

/-- The error of the kind and the length; how many bytes. -/
def headD : List Int → Int × Nat
  | [] => (50, 0)
  | k :: l => if k = 3 then (0, 6) else if k = 1 ∨ k = 2 then (match l with | [] => (50, 0) | m :: _ => if m < 1 ∨ 4 < m then (11, 0) else (0, 2 + 21 * m.toNat)) else (11, 0)

def firstD (zs : List Int) : Sum Int (OutD × Nat) :=
  if (headD zs).1 ≠ 0 then .inl (headD zs).1
  else if zs.length < (headD zs).2 then .inl 50
  else if (decO zs).right = true ∧ (decO zs).bytes = zs.take (headD zs).2 then .inr (decO zs, (headD zs).2)
  else .inl 11

def takeL : Nat → List Int → List OutD × Int
  | 0, _ => ([], 0)
  | f + 1, zs => if zs = [] then ([], 0) else match firstD zs with
    | .inl e => ([], e)
    | .inr (o, n) => (o :: (takeL f (zs.drop n)).1, (takeL f (zs.drop n)).2)
def takeO (zs : List Int) : List OutD × Int := takeL zs.length zs

theorem headD_side (l : List Int) : headD (3 :: l) = (0, 6) := by simp [headD]
theorem headD_match (k m : Int) (l : List Int) (hk : k = 1 ∨ k = 2) (h1 : 1 ≤ m) (h4 : m ≤ 4) : headD (k :: m :: l) = (0, 2 + 21 * m.toNat) := by
  have : ¬ k = 3 := by omega
  have h2 : ¬ (m < 1 ∨ 4 < m) := by omega
  simp [headD, this, hk, h2]

/-- Bytes whose kind and length may be. -/
theorem headD_ok {zs : List Int} (h : (headD zs).1 = 0) : (∃ l, zs = 3 :: l) ∨ ∃ k m l, (k = 1 ∨ k = 2) ∧ zs = k :: m :: l ∧ 1 ≤ m ∧ m ≤ 4 := by
  match zs with
  | [] => simp [headD] at h
  | k :: l =>
    by_cases h3 : k = 3
    · subst h3; exact .inl ⟨l, rfl⟩
    · by_cases h12 : k = 1 ∨ k = 2
      · match l with
        | [] => simp [headD, h3, h12] at h
        | m :: l =>
          by_cases hm : m < 1 ∨ 4 < m
          · simp [headD, h3, h12, hm] at h
          · exact .inr ⟨k, m, l, h12, rfl, by omega, by omega⟩
      · simp [headD, h3, h12] at h

theorem headD_err (zs : List Int) : (headD zs).1 = 0 ∨ (headD zs).1 = 50 ∨ (headD zs).1 = 11 := by
  match zs with
  | [] => simp [headD]
  | k :: l =>
    by_cases h3 : k = 3
    · simp [headD, h3]
    · by_cases h12 : k = 1 ∨ k = 2
      · match l with
        | [] => simp [headD, h3, h12]
        | m :: l =>
          by_cases hm : m < 1 ∨ 4 < m
          · simp [headD, h3, h12, hm]
          · simp [headD, h3, h12, hm]
      · simp [headD, h3, h12]

theorem headD_size {zs : List Int} (h : (headD zs).1 = 0) : 6 ≤ (headD zs).2 := by
  rcases headD_ok h with ⟨l, rfl⟩ | ⟨k, m, l, hk, rfl, h1, h4⟩
  · simp [headD_side]
  · simp only [headD_match k m l hk h1 h4]; omega

theorem firstD_inr {zs : List Int} {o : OutD} {n : Nat} (h : firstD zs = .inr (o, n)) :
    o = decO zs ∧ n = (headD zs).2 ∧ (headD zs).1 = 0 ∧ n ≤ zs.length ∧ o.right = true ∧ o.bytes = zs.take n ∧ 6 ≤ n := by
  unfold firstD at h
  split at h
  · cases h
  next h0 =>
    split at h
    · cases h
    next h1 =>
      split at h
      next h2 =>
        injection h with h
        injection h with h3 h4
        subst h3 h4
        have h0' : (headD zs).1 = 0 := by simpa using h0
        exact ⟨rfl, rfl, h0', by omega, h2.1, h2.2, headD_size h0'⟩
      · cases h

theorem firstD_inl {zs : List Int} {e : Int} (h : firstD zs = .inl e) : e = 50 ∨ e = 11 := by
  unfold firstD at h
  split at h
  next h0 =>
    injection h with h
    subst h
    rcases headD_err zs with h | h
    · exact absurd h h0
    · exact h
  · split at h
    · injection h with h; exact .inl h.symm
    · split at h
      · cases h
      · injection h with h; exact .inr h.symm

theorem headD_take {zs : List Int} (h : (headD zs).1 = 0) {k : Nat} (hk : 2 ≤ k) : headD (zs.take k) = headD zs := by
  obtain ⟨k, rfl⟩ : ∃ j, k = j + 2 := ⟨k - 2, by omega⟩
  rcases headD_ok h with ⟨l, rfl⟩ | ⟨k, m, l, hk, rfl, h1, h4⟩
  · simp [headD]
  · rw [headD_match k m l hk h1 h4]
    simp only [List.take_succ_cons]
    rw [headD_match k m _ hk h1 h4]

theorem evAt_take (l : List Int) (m i k : Nat) (hi : i < m) (hk : 1 + 21 * m ≤ k) : evAt (l.take k) m i = evAt l m i := by
  unfold evAt
  rw [List.drop_take, List.take_take, Nat.min_eq_left (by omega)]

theorem decO_take {zs : List Int} (h : (headD zs).1 = 0) {k : Nat} (hk : (headD zs).2 ≤ k) : decO (zs.take k) = decO zs := by
  rcases headD_ok h with ⟨l, rfl⟩ | ⟨kd, m, l, hkd, rfl, h1, h4⟩
  · rw [headD_side] at hk
    obtain ⟨k, rfl⟩ : ∃ j, k = j + 1 := ⟨k - 1, by simp at hk; omega⟩
    simp only [List.take_succ_cons, decO, if_true]
    have h5 : 5 ≤ k := by simp at hk; omega
    rw [List.take_take, Nat.min_eq_left (by omega)]
    simp only [List.getD_eq_getElem?_getD, List.getElem?_take, show 4 < k by omega, if_true]
  · rw [headD_match kd m l hkd h1 h4] at hk
    have h3 : ¬ kd = 3 := by omega
    obtain ⟨k, rfl⟩ : ∃ j, k = j + 2 := ⟨k - 2, by simp at hk; omega⟩
    simp only at hk
    have e : (kd :: m :: l).take (k + 2) = kd :: ((m :: l).take (k + 1)) := rfl
    rw [e]
    have g : ((m :: l).take (k + 1)).getD 0 0 = m := rfl
    simp only [decO, if_neg h3, g]
    have g2 : (m :: l).getD 0 0 = m := rfl
    simp only [g2]
    rw [List.drop_take, List.take_take, Nat.min_eq_left (by omega)]
    congr 1
    apply List.map_congr_left
    intro i hi
    exact evAt_take _ _ _ _ (List.mem_range.1 hi) (by omega)

theorem firstD_take {zs : List Int} {o : OutD} {n : Nat} (h : firstD zs = .inr (o, n)) {k : Nat} (hk : n ≤ k) : firstD (zs.take k) = .inr (o, n) := by
  obtain ⟨h1, h2, h3, h4, h5, h6, h7⟩ := firstD_inr h
  subst h1 h2
  have e1 := headD_take h3 (k := k) (by omega)
  have e2 := decO_take h3 (k := k) hk
  unfold firstD
  rw [e1, e2, if_neg (by simp [h3]), if_neg (by rw [List.length_take]; omega), if_pos ⟨h5, by rw [List.take_take, Nat.min_eq_left hk]; exact h6⟩]

theorem firstD_short {zs : List Int} {o : OutD} {n : Nat} (h : firstD zs = .inr (o, n)) {k : Nat} (hk : k < n) (h1 : 1 ≤ k) : firstD (zs.take k) = .inl 50 := by
  obtain ⟨_, h2, h3, h4, _, _, h7⟩ := firstD_inr h
  by_cases hk2 : 2 ≤ k
  · have e1 := headD_take h3 (k := k) hk2
    unfold firstD
    rw [e1, if_neg (by simp [h3]), if_pos (by rw [List.length_take]; omega)]
  · have hk1 : k = 1 := by omega
    subst hk1
    rcases headD_ok h3 with ⟨l, rfl⟩ | ⟨kd, m, l, hkd, rfl, h1, h4⟩
    · simp [firstD, headD]
    · have h3 : ¬ kd = 3 := by omega
      simp [firstD, headD, h3, hkd]

theorem takeL_fuel : ∀ (f g : Nat) (zs : List Int), zs.length ≤ f → zs.length ≤ g → takeL f zs = takeL g zs
  | 0, 0, _, _, _ => rfl
  | 0, g + 1, zs, h, _ => by have : zs = [] := List.length_eq_zero_iff.1 (by omega); subst this; simp [takeL]
  | f + 1, 0, zs, _, h => by have : zs = [] := List.length_eq_zero_iff.1 (by omega); subst this; simp [takeL]
  | f + 1, g + 1, zs, hf, hg => by
    unfold takeL
    split
    · rfl
    · split
      · rfl
      next o n he =>
        obtain ⟨_, _, _, _, _, _, h7⟩ := firstD_inr he
        have e := takeL_fuel f g (zs.drop n) (by rw [List.length_drop]; omega) (by rw [List.length_drop]; omega)
        rw [e]

theorem takeO_nil : takeO [] = ([], 0) := rfl
theorem takeO_inl {zs : List Int} {e : Int} (hz : zs ≠ []) (h : firstD zs = .inl e) : takeO zs = ([], e) := by
  unfold takeO
  match zs, hz with
  | a :: l, hz => simp only [List.length_cons, takeL, if_neg hz, h]
theorem takeO_inr {zs : List Int} {o : OutD} {n : Nat} (hz : zs ≠ []) (h : firstD zs = .inr (o, n)) : takeO zs = (o :: (takeO (zs.drop n)).1, (takeO (zs.drop n)).2) := by
  have h7 := (firstD_inr h).2.2.2.2.2.2
  have e : takeO zs = takeL (zs.length + 1) zs := takeL_fuel _ _ _ (Nat.le_refl _) (by omega)
  have e2 : takeO (zs.drop n) = takeL zs.length (zs.drop n) := takeL_fuel _ _ _ (Nat.le_refl _) (by rw [List.length_drop]; omega)
  rw [e, e2]
  simp only [takeL, if_neg hz, h]

theorem takeO_err : ∀ (f : Nat) (zs : List Int), zs.length ≤ f → (takeO zs).2 = 0 ∨ (takeO zs).2 = 50 ∨ (takeO zs).2 = 11
  | f, [], _ => .inl rfl
  | 0, a :: l, h => by simp at h
  | f + 1, a :: l, h => by
    cases he : firstD (a :: l) with
    | inl e => rw [takeO_inl (by simp) he]; exact .inr (firstD_inl he)
    | inr p =>
      obtain ⟨o, n⟩ := p
      have h7 := (firstD_inr he).2.2.2.2.2.2
      rw [takeO_inr (by simp) he]
      exact takeO_err f _ (by rw [List.length_drop]; omega)

theorem takeO_len : ∀ (f : Nat) (zs : List Int), zs.length ≤ f → 6 * (takeO zs).1.length ≤ zs.length
  | f, [], _ => by simp [takeO_nil]
  | 0, a :: l, h => by simp at h
  | f + 1, a :: l, h => by
    cases he : firstD (a :: l) with
    | inl e => rw [takeO_inl (by simp) he]; simp
    | inr p =>
      obtain ⟨o, n⟩ := p
      obtain ⟨_, _, _, h4, _, _, h7⟩ := firstD_inr he
      rw [takeO_inr (by simp) he]
      have := takeO_len f ((a :: l).drop n) (by rw [List.length_drop]; omega)
      rw [List.length_drop] at this
      rw [List.length_cons]
      omega

theorem takeO_ok : ∀ (f : Nat) (zs : List Int), zs.length ≤ f → (takeO zs).2 = 0 → ((takeO zs).1.all OutD.right) = true ∧ (takeO zs).1.flatMap OutD.bytes = zs
  | f, [], _, _ => by simp [takeO_nil]
  | 0, a :: l, h, _ => by simp at h
  | f + 1, a :: l, h, h0 => by
    cases he : firstD (a :: l) with
    | inl e => rw [takeO_inl (by simp) he] at h0; rcases firstD_inl he with rfl | rfl <;> cases h0
    | inr p =>
      obtain ⟨o, n⟩ := p
      obtain ⟨_, _, _, h4, h5, h6, h7⟩ := firstD_inr he
      rw [takeO_inr (by simp) he] at h0 ⊢
      obtain ⟨i1, i2⟩ := takeO_ok f ((a :: l).drop n) (by rw [List.length_drop]; omega) h0
      refine ⟨by simp [h5] at i1 ⊢; exact i1, ?_⟩
      rw [List.flatMap_cons, i2, h6, List.take_append_drop]

/-- A byte less: too short. -/
theorem takeO_cut : ∀ (f : Nat) (zs : List Int), zs.length ≤ f → zs ≠ [] → (takeO zs).2 = 0 → (takeO (zs.take (zs.length - 1))).2 = 50
  | _, [], _, h, _ => absurd rfl h
  | 0, a :: l, h, _, _ => by simp at h
  | f + 1, a :: l, h, hz, h0 => by
    cases he : firstD (a :: l) with
    | inl e => rw [takeO_inl hz he] at h0; rcases firstD_inl he with rfl | rfl <;> cases h0
    | inr p =>
      obtain ⟨o, n⟩ := p
      obtain ⟨_, _, _, h4, h5, h6, h7⟩ := firstD_inr he
      rw [takeO_inr hz he] at h0
      generalize a :: l = zs at *
      have hne : zs.take (zs.length - 1) ≠ [] := by
        intro e
        have := congrArg List.length e
        rw [List.length_take] at this
        simp at this
        omega
      by_cases hr : zs.drop n = []
      · have hl : n = zs.length := by
          have := congrArg List.length hr
          rw [List.length_drop] at this
          simp at this
          omega
        rw [takeO_inl hne (firstD_short he (by omega) (by omega))]
      · have hl : n < zs.length := by
          rcases Nat.lt_or_ge n zs.length with h | h
          · exact h
          · exact absurd (List.drop_eq_nil_iff.2 h) hr
        rw [takeO_inr hne (firstD_take he (by omega)), List.drop_take]
        have := takeO_cut f (zs.drop n) (by rw [List.length_drop]; omega) hr h0
        rw [List.length_drop] at this
        rw [show zs.length - 1 - n = zs.length - n - 1 by omega]
        exact this

end Go.Proofs.Ytcbneobdelbhlaa
