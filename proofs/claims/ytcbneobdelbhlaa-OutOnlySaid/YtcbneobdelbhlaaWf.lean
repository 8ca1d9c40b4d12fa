/-
  Walks of package wire: Put.
-/
import Derived.Test.YtcbneobdelbhlaaWd
import Derived.Test.YtcbneobdelbhlaaWe
namespace Go.Proofs.Ytcbneobdelbhlaa
open Go.RowKit Go.Shelf
attribute [local go_sem] Oper.semAt_some
attribute [local go_sem ↓] wpIn_at_zero wpIn_at_succ
attribute [local go_sem ↓ high] appIn_eq

/-- The k bytes of x, the highest first. -/
def bytesOf (x : Int) (k : Nat) : List Int := (shiftsOf k).map (byteAt x)
theorem bytesOf_len (x : Int) (k : Nat) : (bytesOf x k).length = k := by simp [bytesOf, shiftsOf_len]
/-- What Put has written when j numbers are done. -/
def bytesUp (kd : Int) (zs : List Int) (ws : List Nat) (j : Nat) : List Int := kd :: ((zs.zip ws).take j).flatMap fun p => bytesOf p.1 p.2
theorem bytesUp_succ {kd : Int} {zs : List Int} {ws : List Nat} {j : Nat} (h1 : j < zs.length) (h2 : j < ws.length) : bytesUp kd zs ws (j + 1) = bytesUp kd zs ws j ++ bytesOf (zs.getD j 0) (ws.getD j 0) := by
  unfold bytesUp
  have : j < (zs.zip ws).length := by rw [List.length_zip]; omega
  rw [List.take_succ_eq_append_getElem this, List.flatMap_append, List.getElem_zip]
  simp [List.getD_eq_getElem?_getD, List.getElem?_eq_getElem h1, List.getElem?_eq_getElem h2]
theorem bytesUp_len {kd : Int} {zs : List Int} {ws : List Nat} (h8 : ∀ k ∈ ws, k ≤ 8) : ∀ j, (bytesUp kd zs ws j).length ≤ 1 + 8 * j := by
  intro j
  unfold bytesUp
  rw [List.length_cons, List.length_flatMap]
  have : ∀ (l : List (Int × Nat)), (∀ p ∈ l, p.2 ≤ 8) → (l.map fun p => (bytesOf p.1 p.2).length).sum ≤ 8 * l.length := by
    intro l
    induction l with
    | nil => simp
    | cons p l ih =>
      intro h
      have := ih (fun q hq => h q (List.mem_cons_of_mem _ hq))
      have h0 := h p (by simp)
      simp only [List.map_cons, List.sum_cons, bytesOf_len, List.length_cons] at this ⊢
      omega
  have h2 := this ((zs.zip ws).take j) (fun p hp => h8 _ (List.of_mem_zip (List.mem_of_mem_take hp)).2)
  have h3 : ((zs.zip ws).take j).length ≤ j := by rw [List.length_take]; omega
  omega

structure PW (n0 : Nat) (w : World) (kd : Int) (zs : List Int) (ws : List Nat) (b4 bw b3 bs : Nat) (pre : List Int) (W : World) : Prop where
  up : pre = zs.take pre.length
  below : Below n0 w W
  box : ∃ v, W.heap[n0 + 1]? = some (.cells #[v] 30 (0, 0)) ∧ W.ownsRow (n0 + 2) 5 1 v (bytesUp kd zs ws pre.length).length ((bytesUp kd zs ws pre.length).map (Value.int .u8))
  wbox : ∃ A, W.heap[b4]? = some (.cells #[.slice A (ws.length - pre.length) (ws.length - pre.length)] 59 (0, 0)) ∧ (pre.length < ws.length → A = some ⟨bw, pre.length, none⟩)
  wrow : W.heap[bw]? = some (.cells (ws.map fun (k : Nat) => Value.int .i64 (k : Int)).toArray 3 (0, 0))
  nbox : ∃ u, W.heap[b3]? = some (.cells u 59 (0, 0))
  nrow : ∃ u, W.heap[bs]? = some (.cells u 3 (0, 0))

theorem PW.keep {n0 c : Nat} {w A B : World} {kd : Int} {zs : List Int} {ws : List Nat} {b4 bw b3 bs : Nat} {pre : List Int} (hc : n0 ≤ c) (h : PW n0 w kd zs ws b4 bw b3 bs pre A) (hk : Kept (ZI c fun _ => False) A B) :
    PW n0 w kd zs ws b4 bw b3 bs pre B := by
  obtain ⟨e1, hb, ⟨v, c1, hown⟩, ⟨A', c4, hA⟩, cw, ⟨u3, c3⟩, us, cs⟩ := h
  have z : ∀ k o, o.isCells = true → ZI c (fun _ => False) k o := fun k o ho => ⟨fun h => h.elim, .inr ho⟩
  have hs : n0 ≤ A.heap.size := by have := heap_lt c1; omega
  exact ⟨e1, ZI_below hk hb hc hs (fun _ _ h => h.elim), ⟨v, hk.same _ _ c1 (z _ _ rfl), ZI_row hk hown (fun _ _ h => h.elim)⟩, ⟨A', hk.same _ _ c4 (z _ _ rfl), hA⟩, hk.same _ _ cw (z _ _ rfl), ⟨u3, hk.same _ _ c3 (z _ _ rfl)⟩, us, hk.same _ _ cs (z _ _ rfl)⟩

theorem row_ne {W : World} {base n g cap : Nat} {t : TypeId} {cs : Array Value} {xs : List Value} (h : W.ownsRow base 5 1 (.slice (some ⟨g, 0, none⟩) n cap) n xs) {b : Nat} (hb : W.heap[b]? = some (.cells cs t (0, 0))) (ht : t ≠ 5) : b ≠ g := by
  rintro rfl
  rcases h.2 with ⟨h, _⟩ | ⟨g', cap', cur, hv, _, hh, _⟩
  · cases h
  · injection hv with hv
    injection hv with hv
    injection hv with hv
    subst hv
    rw [hb] at hh
    injection hh with hh
    injection hh with _ hh
    exact ht hh

theorem set_heap {W : World} {b : Nat} {v u : Value} {t : TypeId} (h : W.heap[b]? = some (.cells #[v] t (0, 0))) : (W.setCell ⟨b, 0, none⟩ u).heap[b]? = some (.cells #[u] t (0, 0)) := one_setCell h

set_option maxHeartbeats 1000000 in
theorem wput_step {n0 c : Nat} {w W w1 w2 : World} {kd x : Int} {zs : List Int} {ws : List Nat} {b4 bw b3 bs : Nat} {pre : List Int} {g cap : Nat} {v' : Value} {k : Nat}
    (hP : PW n0 w kd zs ws b4 bw b3 bs pre W) (hlt : pre.length < zs.length) (hzw : zs.length = ws.length) (hx : pre ++ [x] = zs.take (pre.length + 1)) (hk : k = ws.getD pre.length 0)
    (g4 : n0 + 2 ≤ b4) (gw : n0 + 2 ≤ bw) (g3 : n0 + 2 ≤ b3) (gs : n0 + 2 ≤ bs) (ne : b4 ≠ b3)
    (hv : W.heap[n0 + 1]? = some (.cells #[.slice (some ⟨g, 0, none⟩) (bytesUp kd zs ws pre.length).length cap] 30 (0, 0)))
    (hown : W.ownsRow (n0 + 2) 5 1 (.slice (some ⟨g, 0, none⟩) (bytesUp kd zs ws pre.length).length cap) (bytesUp kd zs ws pre.length).length ((bytesUp kd zs ws pre.length).map (Value.int .u8)))
    (hb1 : Below W.heap.size W w1)
    (hown' : w2.ownsRow (n0 + 2) 5 1 v' ((bytesUp kd zs ws pre.length).length + k) ((bytesUp kd zs ws pre.length).map (Value.int .u8) ++ (bytesOf x k).map (Value.int .u8)))
    (hgrow : w1.grownBy w2 (some g)) :
    w2.cell? ⟨n0 + 1, 0, none⟩ = some (.slice (some ⟨g, 0, none⟩) (bytesUp kd zs ws pre.length).length cap) ∧ w2.frozen? ⟨n0 + 1, 0, none⟩ = false ∧
    (∃ A, (w2.setCell ⟨n0 + 1, 0, none⟩ v').cell? ⟨b4, 0, none⟩ = some (.slice A (ws.length - pre.length) (ws.length - pre.length)) ∧ A = some ⟨bw, pre.length, none⟩) ∧ (w2.setCell ⟨n0 + 1, 0, none⟩ v').frozen? ⟨b4, 0, none⟩ = false ∧
    ∀ A', (pre.length + 1 < ws.length → A' = some ⟨bw, pre.length + 1, none⟩) →
      Kept (ZB c fun i => i = b3 ∨ i = bs) W ((w2.setCell ⟨n0 + 1, 0, none⟩ v').setCell ⟨b4, 0, none⟩ (.slice A' (ws.length - (pre.length + 1)) (ws.length - (pre.length + 1)))) ∧
      PW n0 w kd zs ws b4 bw b3 bs (pre ++ [x]) ((w2.setCell ⟨n0 + 1, 0, none⟩ v').setCell ⟨b4, 0, none⟩ (.slice A' (ws.length - (pre.length + 1)) (ws.length - (pre.length + 1)))) := by
  obtain ⟨e1, hbw, -, ⟨A, c4, hA⟩, cw, ⟨u3, c3⟩, us, cs⟩ := hP
  have far : ∀ {b : Nat} {t : TypeId} {ca : Array Value}, W.heap[b]? = some (.cells ca t (0, 0)) → t ≠ 5 → w2.heap[b]? = some (.cells ca t (0, 0)) := by
    intro b t ca h ht
    have hl := heap_lt h
    have hs := hb1.size
    exact (hgrow.block b (by omega) (fun e => row_ne hown h ht (by injection e))).trans ((hb1.block b hl).trans h)
  have cc := far hv (by decide)
  have cc4 := far c4 (by decide)
  have ccw := far cw (by decide)
  have cc3 := far c3 (by decide)
  have ccs := far cs (by decide)
  have oth : ∀ {b : Nat} {o : Obj}, w2.heap[b]? = some o → b ≠ n0 + 1 → (w2.setCell ⟨n0 + 1, 0, none⟩ v').heap[b]? = some o := fun h hne => (Below.heap_setCell w2 ⟨n0 + 1, 0, none⟩ v' _ hne).trans h
  have oth4 : ∀ {b : Nat} {o : Obj} (A' : Value), (w2.setCell ⟨n0 + 1, 0, none⟩ v').heap[b]? = some o → b ≠ b4 → ((w2.setCell ⟨n0 + 1, 0, none⟩ v').setCell ⟨b4, 0, none⟩ A').heap[b]? = some o := fun A' h hne => (Below.heap_setCell _ ⟨b4, 0, none⟩ A' _ hne).trans h
  have hlw : pre.length < ws.length := by omega
  have hws := heap_lt hv
  have nw4 : bw ≠ b4 := fun e => by subst e; rw [cw] at c4; injection c4 with c4; injection c4 with _ c4; cases c4
  have ns4 : bs ≠ b4 := fun e => by subst e; rw [cs] at c4; injection c4 with c4; injection c4 with _ c4; cases c4
  refine ⟨cell_of_one cc, free_of_one cc, ⟨A, cell_of_one (oth cc4 (by omega)), hA hlw⟩, free_of_one (oth cc4 (by omega)), fun A' hA' => ⟨?_, ?_, ?_, ⟨v', ?_, ?_⟩, ⟨A', ?_, ?_⟩, ?_, ⟨u3, ?_⟩, us, ?_⟩⟩
  · refine ZB_set (ZB_set (Kept.grown ((Kept.of_below hb1)) hgrow ?_) (cell_of_one cc) ?_ _) (cell_of_one (oth cc4 (by omega))) ?_ _
    · intro j o hj ho hz
      injection hj with hj
      subst hj
      rcases hown.2 with ⟨h, _⟩ | ⟨g', cap', cur, hv', _, hh, _⟩
      · cases h
      · injection hv' with hv'
        injection hv' with hv'
        injection hv' with hv'
        subst hv'
        rcases hz with hz | ⟨_, hz⟩
        · rcases hz with rfl | rfl
          · exact row_ne hown c3 (by decide) rfl
          · exact row_ne hown cs (by decide) rfl
        · have := (hb1.block g (heap_lt hh)).trans hh
          rw [this] at ho
          cases ho
          cases hz
    · rintro (h | h) <;> simp only at h <;> omega
    · rintro (h | h) <;> simp only at h <;> omega
  · simp only [List.length_append, List.length_cons, List.length_nil, Nat.zero_add]; exact hx
  · have hg : n0 + 2 ≤ g := by
      have := (hown.lt g rfl).1
      omega
    have hs := hb1.size
    exact ((((hbw.trans (hb1.mono (by omega))).grown hgrow (by omega) (fun j hj => by injection hj with hj; omega)).setCell (p := ⟨n0 + 1, 0, none⟩) (by simp) _).setCell (p := ⟨b4, 0, none⟩) (by simp; omega) _)
  · exact oth4 _ (set_heap cc) (by omega)
  · simp only [List.length_append, List.length_cons, List.length_nil, Nat.zero_add]
    have e : zs.getD pre.length 0 = x := by
      rw [List.take_succ_eq_append_getElem hlt] at hx
      have := List.append_inj_right' hx rfl
      rw [List.getD_eq_getElem?_getD, List.getElem?_eq_getElem hlt]
      simpa using this.symm
    rw [bytesUp_succ hlt hlw, e, ← hk, List.length_append, bytesOf_len, List.map_append]
    obtain ⟨g', cap', rfl, hg', _⟩ : ∃ g' cap', v' = .slice (some ⟨g', 0, none⟩) ((bytesUp kd zs ws pre.length).length + k) cap' ∧ n0 + 2 ≤ g' ∧ g' < w2.heap.size := hown'.form (by simp [bytesUp]; omega)
    have h1 := ownsRow_setCell_below hown' (a := ⟨n0 + 1, 0, none⟩) (by simp) (.slice (some ⟨g', 0, none⟩) ((bytesUp kd zs ws pre.length).length + k) cap')
    refine ownsRow_setCell_other h1 (a := ⟨b4, 0, none⟩) ?_ _
    have := row_ne h1 (oth cc4 (by omega)) (by decide)
    intro e
    exact this (by simpa [Value.ownBlock] using e.symm)
  · simp only [List.length_append, List.length_cons, List.length_nil, Nat.zero_add]
    exact set_heap (oth cc4 (by omega))
  · simp only [List.length_append, List.length_cons, List.length_nil, Nat.zero_add]; exact hA'
  · exact oth4 _ (oth ccw (by omega)) nw4
  · exact oth4 _ (oth cc3 (by omega)) (by omega)
  · exact oth4 _ (oth ccs (by omega)) ns4

end Go.Proofs.Ytcbneobdelbhlaa
