/-
  A range over a function: one law for the caller over a contract of the iterator, both over what blocks of memory are kept.
-/
import Derived.RangeFuncNested
import Derived.RangeFuncBound
import Derived.RangeFuncCalls
import Derived.RangeFuncLeaves
import Derived.Shelf.RegionOpen
import Derived.WalkKit
import Derived.OwnWalkIn
import Derived.TacticsInMore
import Derived.LoopNIn
import Derived.LoopIn
import Derived.Test.YtcbneobdelbhlaaBa
namespace Go.Proofs.Ytcbneobdelbhlaa
open Go Go.RowKit

/-- From A to B every block that Z tells of lies as it lay; the streams, too; no block has gone. -/
structure Kept (Z : Nat → Obj → Prop) (A B : World) : Prop where
  os : B.os = A.os
  tape : B.tape = A.tape
  output : B.output = A.output
  size : A.heap.size ≤ B.heap.size
  same : ∀ k o, A.heap[k]? = some o → Z k o → B.heap[k]? = some o

theorem heap_lt {A : World} {k : Nat} {o : Obj} (h : A.heap[k]? = some o) : k < A.heap.size := (Array.getElem?_eq_some_iff.1 h).1

namespace Kept
variable {Z : Nat → Obj → Prop} {A B C : World}
theorem refl (Z : Nat → Obj → Prop) (A : World) : Kept Z A A := ⟨rfl, rfl, rfl, Nat.le_refl _, fun _ _ h _ => h⟩
theorem trans (h : Kept Z A B) (k : Kept Z B C) : Kept Z A C :=
  ⟨k.os.trans h.os, k.tape.trans h.tape, k.output.trans h.output, Nat.le_trans h.size k.size, fun i o hi hz => k.same i o (h.same i o hi hz) hz⟩
theorem mono {Z' : Nat → Obj → Prop} (h : Kept Z A B) (hz : ∀ k o, Z' k o → Z k o) : Kept Z' A B := ⟨h.os, h.tape, h.output, h.size, fun k o hk ho => h.same k o hk (hz k o ho)⟩
theorem of_below (h : Below A.heap.size A B) : Kept Z A B := ⟨h.os, h.tape, h.output, h.size, fun k _ hk _ => (h.block k (heap_lt hk)).trans hk⟩
theorem below {n : Nat} {W : World} (hb : Below n W A) (hn : n ≤ A.heap.size) (hz : ∀ k, k < n → ∀ x, Z k x) (h : Kept Z A B) : Below n W B := by
  refine hb.trans ⟨h.os, h.tape, h.output, h.size, fun k hk => ?_⟩
  obtain ⟨o, ho⟩ : ∃ o, A.heap[k]? = some o := ⟨A.heap[k]'(by omega), by simp⟩
  rw [ho, h.same k o ho (hz k hk o)]
theorem alloc (h : Kept Z A B) (o : Obj) : Kept Z A (B.alloc o) := h.trans (of_below ((Below.refl _ _).alloc (Nat.le_refl _) o))
theorem drew (h : Kept Z A B) : Kept Z A B.drew := h.trans (of_below ((Below.refl _ _).drew))
theorem setCell (h : Kept Z A B) {a : Addr} (ha : ∀ o, B.heap[a.block]? = some o → ¬ Z a.block o) (u : Value) : Kept Z A (B.setCell a u) :=
  h.trans ⟨rfl, rfl, rfl, by simp [World.setCell], fun k o hk hz => by
    by_cases e : k = a.block
    · subst e; exact absurd hz (ha o hk)
    · exact (Below.heap_setCell B a u k e).trans hk⟩
theorem putObj (h : Kept Z A B) {l : Nat} (hl : ∀ o, B.heap[l]? = some o → ¬ Z l o) (o' : Obj) : Kept Z A (B.putObj l o') :=
  h.trans ⟨rfl, rfl, rfl, by simp, fun k o hk hz => by
    by_cases e : k = l
    · subst e; exact absurd hz (hl o hk)
    · exact (World.putObj_heap_other e).trans hk⟩
theorem grown {row : Option Nat} (h : Kept Z A B) (hg : B.grownBy C row) (hr : ∀ k o, row = some k → B.heap[k]? = some o → ¬ Z k o) : Kept Z A C :=
  h.trans ⟨hg.os, hg.tape, hg.output, hg.size, fun k o hk hz => (hg.block k (heap_lt hk) (fun e => hr k o e.symm hk hz)).trans hk⟩
theorem cell (h : Kept Z A B) {a : Addr} {v : Value} (hc : A.cell? a = some v) (hz : ∀ o, o.isCells = true → Z a.block o) : B.cell? a = some v := by
  obtain ⟨o, ho, hcl⟩ := cells_of_cell hc
  rw [World.cell?_of_block ((h.same _ o ho (hz o hcl)).trans ho.symm), hc]
theorem frozen (h : Kept Z A B) {a : Addr} {v : Value} (hc : A.cell? a = some v) (hz : ∀ o, o.isCells = true → Z a.block o) : B.frozen? a = A.frozen? a := by
  obtain ⟨o, ho, hcl⟩ := cells_of_cell hc
  exact World.frozen?_of_block ((h.same _ o ho (hz o hcl)).trans ho.symm)
theorem row {base e size n : Nat} {v : Value} {xs : List Value} (h : Kept Z A B) (hr : A.ownsRow base e size v n xs) (hz : ∀ k o, base ≤ k → o.isCells = true → Z k o) : B.ownsRow base e size v n xs := by
  obtain ⟨h1, h2⟩ := hr
  refine ⟨h1, h2.imp id ?_⟩
  rintro ⟨g, cap, cur, hv, hg, hh, r⟩
  exact ⟨g, cap, cur, hv, hg, h.same _ _ hh (hz _ _ hg rfl), r⟩
end Kept

/-- What the caller's words abide while the iterator has its turn: c: the number of blocks when the loop began; Wz: what the iterator may write. -/
def ZI (c : Nat) (Wz : Nat → Prop) (k : Nat) (o : Obj) : Prop := ¬ Wz k ∧ (k < c ∨ o.isCells = true)
/-- What a round keeps: what the iterator wants (Kz), and the loop's book-keeping. -/
def ZB (c : Nat) (Kz : Nat → Prop) (k : Nat) (o : Obj) : Prop := Kz k ∨ (c ≤ k ∧ o.isCells = false)
/-- What the iterator reads. -/
def ZK (Kz : Nat → Prop) (k : Nat) (_ : Obj) : Prop := Kz k
/-- All but what the iterator may write. -/
def ZW (Wz : Nat → Prop) (k : Nat) (_ : Obj) : Prop := ¬ Wz k

/-- THE ITERATOR's CONTRACT: with whatever rounds that keep its word it goes on to the end, or a round stops it. -/
def SeqZ {α : Type} (P : Program) (g : Nat) (lb : Array Value) (encs : α → Array Value) (Kz Wz : Nat → Prop) (Good : List α → α → World → Prop) (S Sp : List α → Prop) (w : World) : Prop :=
  ∀ (l : Nat) (J Jx : List α → World → Prop) (W : World), Kept (ZK Kz) w W → (∀ s A B, J s A → Kept (ZW Wz) A B → J s B) → (∀ s A B, Jx s A → Kept (ZW Wz) A B → Jx s B) →
    (∀ pre x W1, J pre W1 → Kept (ZK fun k => Kz k ∧ ¬ Wz k) w W1 → Good pre x W1 → YieldAt Fence.wide 0 P l (encs x) W1 fun e W' =>
      (e = .returned (.bool true) ∧ J (pre ++ [x]) W' ∧ Kept (ZK Kz) W1 W') ∨ (e = .returned (.bool false) ∧ Jx (pre ++ [x]) W')) →
    J [] W →
    CallsIn Fence.wide 0 P g (#[.func (.yield l) #[] #[]] ++ lb) W fun e W' => (∃ v, e = .returned v) ∧ ((∃ xs, S xs ∧ J xs W') ∨ (∃ pre, Sp pre ∧ Jx pre W'))

/-- What a round's body must achieve. -/
def roundOk {α : Type} (c : Nat) (Kz : Nat → Prop) (I : List α → World → Prop) (Ix : Code → List α → World → Prop) (xs : List α) (W : World) : Exit → Act → World → Prop
  | .normal, _, W' => Kept (ZB c Kz) W W' ∧ I xs W'
  | .ret, _, W' => Kept (ZB c Kz) W W' ∧ Ix .ret xs W'
  | .exit id, _, W' => Kept (ZB c Kz) W W' ∧ Ix (.exit id) xs W'
  | .goto t, _, W' => Kept (ZB c Kz) W W' ∧ Ix (.goto t) xs W'
  | .panic _, _, _ => False
  | .outgrown, _, _ => False

/-- THE STATEMENT 'for .. := range g { .. }'. -/
theorem wp_range {α : Type} {P : Program} {g : Operand} {ps : Array Tmp} {assign body : Code} {Q : Exit → Act → World → Prop} {a : Act} {w : World}
    {gf : Nat} {lb : Array Value} (hg : a.eval g = .func (.func gf) #[] lb) (eg : ∀ args w, (callFunc gf args).run P w = .ok (.enter gf args) w)
    {encs : α → Array Value} {Kz Wz : Nat → Prop} {Good : List α → α → World → Prop} {S Sp : List α → Prop} (hseq : SeqZ P gf lb encs Kz Wz Good S Sp w)
    (hKz : ∀ k, Kz k → k < w.heap.size) (hWz : ∀ k, Wz k → k < w.heap.size) (hps : ∀ x, (encs x).size = ps.size)
    (I : List α → World → Prop) (Ix : Code → List α → World → Prop) (hI : ∀ s A B, I s A → Kept (ZI w.heap.size Wz) A B → I s B) (hIx : ∀ c s A B, Ix c s A → Kept (ZI w.heap.size Wz) A B → Ix c s B) (h0 : I [] w)
    (Ax : List α → α → Act → World → Prop) (hAx : ∀ pre x a' A B, Ax pre x a' A → Kept (ZI w.heap.size Wz) A B → Ax pre x a' B)
    (hassign : ∀ (l : Nat) (pre : List α) (x : α) (W : World), I pre W → Kept (ZK fun k => Kz k ∧ ¬ Wz k) w W → Good pre x W →
      assign.wpIn (Fence.wide.inRound l) 0 P (Exit.then (fun a' W' => Kept (ZB w.heap.size Kz) W W' ∧ Ax pre x a' W') (fun _ _ _ => False)) { tmps := (ps.zip (encs x)).foldl (fun t (p, v) => t.setIfInBounds p v) a.tmps, defers := [] } W)
    (hbody : ∀ (l : Nat) (pre : List α) (x : α) (a' : Act) (W : World), Ax pre x a' W → body.wpIn (Fence.wide.inRound l) 0 P (roundOk w.heap.size Kz I Ix (pre ++ [x]) W) a' W)
    (hdone : ∀ (D : Nat) (xs : List α) (W : World), w.heap.size ≤ D → S xs → I xs W → W.heap[D]? = some (.deferred (some [])) → Q .normal { a with defers := { target := .collected D, args := #[] } :: a.defers } W)
    (hstop : ∀ (D : Nat) (c : Code) (pre : List α) (W : World), w.heap.size ≤ D → Sp pre → Ix c pre W → W.heap[D]? = some (.deferred (some [])) → c.wp P Q { a with defers := { target := .collected D, args := #[] } :: a.defers } W) :
    (Code.rangeFunc g ps assign body).wp P Q a w := by
  refine wpIn_wide (n := 0) |>.1 ?_
  refine wpIn_rangeFunc ?_
  intro fn hfn
  rw [Fence.wide_round]
  obtain ⟨rec, hrec⟩ : ∃ rec : LoopState → Option Code → Loop, rec = fun st pe => { state := st, pending := pe, fn, tmps := a.tmps, params := ps, assign, body, defers := w.heap.size } := ⟨_, rfl⟩
  obtain ⟨W1, hW1⟩ : ∃ W1, (w.alloc (.deferred (some []))).alloc (.loop (rec .ready none)) = W1 := ⟨_, rfl⟩
  have hL1 : W1.heap[w.heap.size + 1]? = some (.loop (rec .ready none)) := by
    rw [← hW1]; have := World.alloc_heap_new (w.alloc (.deferred (some []))) (.loop (rec .ready none)); rwa [World.size_alloc] at this
  have hK1 : W1.heap[w.heap.size]? = some (.deferred (some [])) := by
    rw [← hW1]; exact (Below.heap_alloc _ _ _ (by simp)).trans (World.alloc_heap_new w _)
  have hkw : ∀ Z, Kept Z w W1 := fun Z => by rw [← hW1]; exact ((Kept.refl Z w).alloc _).alloc _
  have hI1 : I [] W1 := hI _ _ _ h0 (hkw _)
  have nZI : ∀ k o, w.heap.size ≤ k → o.isCells = false → ¬ ZI w.heap.size Wz k o := fun k o hk ho hz => hz.2.elim (fun h => by omega) (fun h => by rw [ho] at h; cases h)
  have nZK : ∀ k (o : Obj), w.heap.size ≤ k → ¬ ZK Kz k o := fun k o hk hz => by have := hKz k hz; omega
  refine ⟨w.heap.size + 1, [{ target := .collected w.heap.size, args := #[] }], W1, { target := .fn (.func gf) lb, args := #[.func (.yield (w.heap.size + 1)) #[] #[]] }, W1, gf,
    #[.func (.yield (w.heap.size + 1)) #[] #[]] ++ lb, W1, ?_, ?_, fun _ _ => trivial, ?_, (fun h => by cases h), ?_⟩
  · rw [← hW1, hrec]; exact run_enterLoop_outer _ _ _ _ _
  · simp only [resolve, hg]
    simp [go_sem]
  · simp [invoke, go_sem, eg]
  · have hZW : ∀ k (o : Obj), w.heap.size ≤ k → ZW Wz k o := fun k o hk hz => by have := hWz k hz; omega
    refine (hseq (w.heap.size + 1)
      (fun pre W => I pre W ∧ W.heap[w.heap.size + 1]? = some (.loop (rec .ready none)) ∧ W.heap[w.heap.size]? = some (.deferred (some [])))
      (fun pre W => ∃ c, Ix c pre W ∧ W.heap[w.heap.size + 1]? = some (.loop (rec .done (some c))) ∧ W.heap[w.heap.size]? = some (.deferred (some [])))
      W1 (hkw _)
      (fun s A B hs hk => ⟨hI s A B hs.1 (hk.mono fun k o hz => hz.1), hk.same _ _ hs.2.1 (hZW _ _ (by omega)), hk.same _ _ hs.2.2 (hZW _ _ (by omega))⟩)
      (fun s A B hs hk => by
        obtain ⟨c, hc, hl, hd⟩ := hs
        exact ⟨c, hIx c s A B hc (hk.mono fun k o hz => hz.1), hk.same _ _ hl (hZW _ _ (by omega)), hk.same _ _ hd (hZW _ _ (by omega))⟩)
      ?_ ⟨hI1, hL1, hK1⟩).mono ?_
    · rintro pre x W ⟨hi, hl, hk⟩ hkz hgood
      have hy := run_yield (P := P) (args := encs x) hl (by rw [hrec]; exact hps x)
      rw [hrec] at hy
      refine ⟨fn, _, assign, body, hy, roundIn_of_wpIn hfn (wpIn_mono (hassign _ pre x W hi hkz hgood) ?_)⟩
      clear hy
      intro e a' Wa hp
      cases e with
      | normal =>
        obtain ⟨hba, hax⟩ := hp
        have hl' := hba.same _ _ hl (.inr ⟨by omega, rfl⟩)
        have hk' := hba.same _ _ hk (.inr ⟨Nat.le_refl _, rfl⟩)
        refine ⟨_, run_beginRound hl' (by rw [hrec]), ?_⟩
        have hlt := heap_lt hl'
        have hl2 : (Wa.putObj (w.heap.size + 1) (.loop { rec .ready none with state := .busy })).heap[w.heap.size + 1]? = some (.loop { rec .ready none with state := .busy }) := World.putObj_heap_same hlt
        have hk2 : (Wa.putObj (w.heap.size + 1) (.loop { rec .ready none with state := .busy })).heap[w.heap.size]? = some (.deferred (some [])) := (World.putObj_heap_other (by omega)).trans hk'
        have hi2 : Kept (ZI w.heap.size Wz) Wa (Wa.putObj (w.heap.size + 1) (.loop { rec .ready none with state := .busy })) :=
          (Kept.refl _ _).putObj (fun o ho => by rw [hl'] at ho; cases ho; exact nZI _ _ (by omega) rfl) _
        have hz2 : Kept (ZK Kz) Wa (Wa.putObj (w.heap.size + 1) (.loop { rec .ready none with state := .busy })) :=
          (Kept.refl _ _).putObj (fun o _ => nZK _ _ (by omega)) _
        refine wpIn_mono (hbody _ pre x a' _ (hAx _ _ _ _ _ hax hi2)) ?_
        have fin : ∀ (jump : Option Code) (W3 : World), Kept (ZB w.heap.size Kz) (Wa.putObj (w.heap.size + 1) (.loop { rec .ready none with state := .busy })) W3 →
            (Instr.endRound (w.heap.size + 1) jump).run P W3 = .ok (.bool jump.isNone) (W3.putObj (w.heap.size + 1) (.loop (rec (if jump.isNone then .ready else .done) jump))) ∧
            (∀ Z, Z = ZI w.heap.size Wz ∨ Z = ZK Kz → Kept Z W3 (W3.putObj (w.heap.size + 1) (.loop (rec (if jump.isNone then .ready else .done) jump)))) ∧
            (W3.putObj (w.heap.size + 1) (.loop (rec (if jump.isNone then .ready else .done) jump))).heap[w.heap.size + 1]? = some (.loop (rec (if jump.isNone then .ready else .done) jump)) ∧
            (W3.putObj (w.heap.size + 1) (.loop (rec (if jump.isNone then .ready else .done) jump))).heap[w.heap.size]? = some (.deferred (some [])) := fun jump W3 hk3 => by
          have hl3 := hk3.same _ _ hl2 (.inr ⟨by omega, rfl⟩)
          have := run_endRound (P := P) jump hl3
          rw [hrec] at this ⊢
          refine ⟨this, ?_, World.putObj_heap_same (heap_lt hl3), (World.putObj_heap_other (by omega)).trans (hk3.same _ _ hk2 (.inr ⟨Nat.le_refl _, rfl⟩))⟩
          rintro Z (rfl | rfl)
          · exact (Kept.refl _ _).putObj (fun o ho => by rw [hl3] at ho; cases ho; exact nZI _ _ (by omega) rfl) _
          · exact (Kept.refl _ _).putObj (fun o _ => nZK _ _ (by omega)) _
        rintro e a3 W3 hp
        cases e with
        | normal =>
          obtain ⟨hk3, hi3⟩ := hp
          obtain ⟨hr, hz, hl4, hk4⟩ := fin none W3 hk3
          exact ⟨_, _, hr, .inl ⟨rfl, ⟨hI _ _ _ hi3 (hz _ (.inl rfl)), hl4, hk4⟩, ((hba.mono fun k o h => .inl h).trans hz2).trans ((hk3.mono fun k o h => .inl h).trans (hz _ (.inr rfl)))⟩⟩
        | ret =>
          obtain ⟨hk3, hi3⟩ := hp
          obtain ⟨hr, hz, hl4, hk4⟩ := fin (some .ret) W3 hk3
          exact ⟨_, _, hr, .inr ⟨rfl, .ret, hIx _ _ _ _ hi3 (hz _ (.inl rfl)), hl4, hk4⟩⟩
        | exit id =>
          obtain ⟨hk3, hi3⟩ := hp
          obtain ⟨hr, hz, hl4, hk4⟩ := fin (some (.exit id)) W3 hk3
          exact ⟨_, _, hr, .inr ⟨rfl, .exit id, hIx _ _ _ _ hi3 (hz _ (.inl rfl)), hl4, hk4⟩⟩
        | goto t =>
          obtain ⟨hk3, hi3⟩ := hp
          obtain ⟨hr, hz, hl4, hk4⟩ := fin (some (.goto t)) W3 hk3
          exact ⟨_, _, hr, .inr ⟨rfl, .goto t, hIx _ _ _ _ hi3 (hz _ (.inl rfl)), hl4, hk4⟩⟩
        | panic ch => exact hp.elim
        | outgrown => exact hp.elim
      | ret => exact hp.elim
      | exit id => exact hp.elim
      | goto t => exact hp.elim
      | panic ch => exact hp.elim
      | outgrown => exact hp.elim
    · rintro e W2 ⟨⟨v, rfl⟩, (⟨xs, hS, hi, hl, hk⟩ | ⟨pre, hSp, c, hi, hl, hk⟩)⟩
      · have hz : ∀ o', Kept (ZI w.heap.size Wz) W2 (W2.putObj (w.heap.size + 1) o') := fun o' => (Kept.refl _ _).putObj (fun o ho => by rw [hl] at ho; cases ho; exact nZI _ _ (by omega) rfl) _
        exact ⟨none, _, by have := run_endLoop (P := P) hl (by rw [hrec]; simp); rw [hrec] at this; exact this, hdone _ xs _ (Nat.le_refl _) hS (hI _ _ _ hi (hz _)) ((World.putObj_heap_other (by omega)).trans hk)⟩
      · have hz : ∀ o', Kept (ZI w.heap.size Wz) W2 (W2.putObj (w.heap.size + 1) o') := fun o' => (Kept.refl _ _).putObj (fun o ho => by rw [hl] at ho; cases ho; exact nZI _ _ (by omega) rfl) _
        exact ⟨some c, _, by have := run_endLoop (P := P) hl (by rw [hrec]; simp); rw [hrec] at this; exact this, wpIn_wide.2 (hstop _ c pre _ (Nat.le_refl _) hSp (hIx _ _ _ _ hi (hz _)) ((World.putObj_heap_other (by omega)).trans hk))⟩

/-- A function's contract where its body may hold a range over a function. -/
theorem calls_of_wp_m {P : Program} {f : FuncId} {fn : Func} {c : Code} {args : Array Value} {w : World} {R : Ending → World → Prop}
    (hf : P.funcs[f]? = some fn) (hb : fn.body = some c)
    (h : c.wp P (bodyPostM Fence.wide 0 P fn R) { tmps := args ++ Array.replicate (fn.ntmps - args.size) undef, defers := [] } w) : Calls P f args w R :=
  (callsIn_wide (n := 0)).1 (callsIn_of_wp_marks hf hb trivial (wpIn_wide.2 h))

/-- The way out behind one such loop. -/
theorem postM_ret1 {P : Program} {fn : Func} {R : Ending → World → Prop} {tmps : Array Value} {D : Nat} {W : World} {v : Value}
    (hK : W.heap[D]? = some (.deferred (some []))) (hr : (results fn tmps).run P (W.putObj D (.deferred none)) = .ok v (W.putObj D (.deferred none)))
    (hR : R (.returned v) (W.putObj D (.deferred none))) : bodyPostM Fence.wide 0 P fn R .ret { tmps := tmps, defers := [{ target := .collected D, args := #[] }] } W :=
  ⟨by simp, .inl ⟨_, _, rfl, run_takeDeferred hK, ⟨_, hr, hR⟩⟩⟩

/-- The way out without one. -/
theorem postM_ret0 {P : Program} {fn : Func} {R : Ending → World → Prop} {tmps : Array Value} {W : World} {v : Value}
    (hr : (results fn tmps).run P W = .ok v W) (hR : R (.returned v) W) : bodyPostM Fence.wide 0 P fn R .ret { tmps := tmps, defers := [] } W :=
  ⟨_, hr, hR⟩

theorem ZB_set {c : Nat} {Kz : Nat → Prop} {A B : World} (h : Kept (ZB c Kz) A B) {a : Addr} {v : Value} (hc : B.cell? a = some v) (hk : ¬ Kz a.block) (u : Value) : Kept (ZB c Kz) A (B.setCell a u) := by
  refine h.setCell (fun o ho hz => ?_) u
  obtain ⟨o', ho', hcl⟩ := cells_of_cell hc
  rw [ho] at ho'
  cases ho'
  rcases hz with hz | ⟨_, hz⟩
  · exact hk hz
  · rw [hcl] at hz; cases hz
theorem below_putObj {n : Nat} {w W : World} (h : Below n w W) {D : Nat} (hD : n ≤ D) (o : Obj) : Below n w (W.putObj D o) :=
  h.trans ⟨rfl, rfl, rfl, by simp, fun k hk => World.putObj_heap_other (by omega)⟩

/-- The frame's slots (behind a name that the walk's simp does not open). -/
def Fr (a : Act) (t : Array Value) : Prop := a = { tmps := t, defers := [] }
/-- A fact that the walk's simp does not open. -/
def Fact (p : Prop) : Prop := p

theorem cell_new (w : World) (v : Value) (t : TypeId) : (w.alloc (.cells #[v] t)).cell? ⟨w.heap.size, 0, none⟩ = some v := by simp [go_sem]
theorem frozen_new (w : World) (v : Value) (t : TypeId) : (w.alloc (.cells #[v] t)).frozen? ⟨w.heap.size, 0, none⟩ = false := by simp [go_sem]

/-- A cell of one that is no block of the iterator's stays while the iterator has its turn. -/
theorem ZI_cell {c : Nat} {Wz : Nat → Prop} {A B : World} {a : Addr} {v : Value} (h : Kept (ZI c Wz) A B) (hc : A.cell? a = some v) (hz : ¬ Wz a.block) : B.cell? a = some v := h.cell hc fun _ ho => ⟨hz, .inr ho⟩
theorem ZI_frozen {c : Nat} {Wz : Nat → Prop} {A B : World} {a : Addr} {v : Value} (h : Kept (ZI c Wz) A B) (hc : A.cell? a = some v) (hz : ¬ Wz a.block) : B.frozen? a = A.frozen? a := h.frozen hc fun _ ho => ⟨hz, .inr ho⟩
theorem ZI_below {c n : Nat} {Wz : Nat → Prop} {W A B : World} (h : Kept (ZI c Wz) A B) (hb : Below n W A) (hn : n ≤ c) (hA : n ≤ A.heap.size) (hz : ∀ k, k < n → ¬ Wz k) : Below n W B :=
  Kept.below hb hA (fun k hk _ => ⟨hz k hk, .inl (by omega)⟩) h
theorem ZI_row {c : Nat} {Wz : Nat → Prop} {A B : World} {base e size n : Nat} {v : Value} {xs : List Value} (h : Kept (ZI c Wz) A B) (hr : A.ownsRow base e size v n xs) (hz : ∀ k, base ≤ k → ¬ Wz k) : B.ownsRow base e size v n xs :=
  h.row hr fun k _ hk ho => ⟨hz k hk, .inr ho⟩

end Go.Proofs.Ytcbneobdelbhlaa
