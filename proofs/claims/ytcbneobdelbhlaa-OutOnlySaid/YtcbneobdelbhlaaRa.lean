/-
  Walks of package record: kinds (a map of what kinds tell), its two closures, told, Right.
-/
import Derived.Test.YtcbneobdelbhlaaEb
import Derived.Test.YtcbneobdelbhlaaPd
namespace Go.Proofs.Ytcbneobdelbhlaa
open Go.RowKit Go.Shelf
attribute [local go_sem] Oper.semAt_some

theorem run_getObj_map {P : Program} {W : World} {r : Nat} {es : Array MapEntry} {c : Nat} (h : W.heap[r]? = some (.map es c)) : (getObj r).run P W = .ok (.map es c) W := by simp [getObj, Sem.run, h]
theorem run_setObj_map {P : Program} {W : World} {r : Nat} {es : Array MapEntry} {c : Nat} (o : Obj) (h : W.heap[r]? = some (.map es c)) : (setObj r o).run P W = .ok () (W.putObj r o) := by simp [setObj, Sem.run, h, World.putObj]
theorem und126 : Try.prog.underlying 126 = some (.map 5 110) := by kernel_rfl
theorem und5 : Try.prog.underlying 5 = some (.int .u8) := by kernel_rfl
theorem putObj_alloc (W : World) (o o' : Obj) : (W.alloc o).putObj W.heap.size o' = W.alloc o' := by
  simp only [World.putObj, World.alloc]
  congr 1
  apply Array.ext_getElem?
  intro i
  simp only [Array.getElem?_setIfInBounds, Array.getElem?_push, Array.size_push]
  by_cases h : W.heap.size = i
  · subst h; simp
  · simp [h, Ne.symm h]
theorem check5 (b : Bool) (n : Nat) (k : Int) (W : World) : (Instr.checkKey b (n + 1) 5 (.int .u8 k)).run Try.prog W = .ok () W := by
  rw [Instr.checkKey]
  simp [run_underlying und5]

theorem ins1 (W : World) (r : Nat) (v : Value) (hr : r = W.heap.size) : (Instr.mapUpdate 126 (.map (some r)) (.int .u8 1) v).run Try.prog (W.alloc (.map #[] 0)) = .ok () (W.alloc (.map #[⟨.int .u8 1, v, 0⟩] 1)) := by
  subst hr
  have h : (W.alloc (.map #[] 0)).heap[W.heap.size]? = some (.map #[] 0) := World.alloc_heap_new W _
  simp [Instr.mapUpdate, run_underlying und126, run_getObj_map h, check5, Instr.findKey, run_underlying und5, Instr.findNow, run_setObj_map _ h, putObj_alloc]

theorem ins2 (W : World) (r : Nat) (v1 v2 : Value) (hr : r = W.heap.size) : (Instr.mapUpdate 126 (.map (some r)) (.int .u8 2) v2).run Try.prog (W.alloc (.map #[⟨.int .u8 1, v1, 0⟩] 1)) = .ok () (W.alloc (.map #[⟨.int .u8 1, v1, 0⟩, ⟨.int .u8 2, v2, 1⟩] 2)) := by
  subst hr
  have h : (W.alloc (.map #[⟨.int .u8 1, v1, 0⟩] 1)).heap[W.heap.size]? = some (.map #[⟨.int .u8 1, v1, 0⟩] 1) := World.alloc_heap_new W _
  simp [Instr.mapUpdate, run_underlying und126, run_getObj_map h, check5, Instr.findKey, run_underlying und5, Instr.findNow, Instr.sameNow, run_setObj_map _ h, putObj_alloc]

/-- What the map tells of a kind. -/
def pickV (k : Int) (v1 v2 : Value) : Value := if k = 1 then v1 else if k = 2 then v2 else .agg #[.int .i64 0, .int .i64 0, .nilFunc]
theorem lookK (W : World) (r : Nat) (k : Int) (v1 v2 : Value) (h : W.heap[r]? = some (.map #[⟨.int .u8 1, v1, 0⟩, ⟨.int .u8 2, v2, 1⟩] 2)) :
    (Instr.lookup 126 (.map (some r)) (.int .u8 k) true).run Try.prog W = .ok (.tuple #[pickV k v1 v2, .bool (decide (k = 1 ∨ k = 2))]) W := by
  by_cases h1 : k = 1
  · subst h1; simp [Instr.lookup, run_underlying und126, run_getObj_map h, check5, Instr.findKey, run_underlying und5, Instr.findNow, Instr.sameNow, pickV]
  · by_cases h2 : k = 2
    · subst h2; simp [Instr.lookup, run_underlying und126, run_getObj_map h, check5, Instr.findKey, run_underlying und5, Instr.findNow, Instr.sameNow, pickV]
    · simp [Instr.lookup, run_underlying und126, run_getObj_map h, check5, Instr.findKey, run_underlying und5, Instr.findNow, Instr.sameNow, pickV, h1, h2, beq_eq_false_iff_ne.2 h1, beq_eq_false_iff_ne.2 h2]

section
variable (kd ts src seq ek rs rt : Int) (re im : Nat)
/-- A record's cells. -/
def recCells : Array Value := #[.int .u8 kd, .int .i64 ts, .int .i64 src, .int .i64 seq, .int .i64 ek, .complex .f64 re im, .int .i64 rs, .int .i64 rt]
end

set_option maxHeartbeats 1000000 in
/-- The first closure: an event's record may be, but for its source. -/
theorem fine1 {kd ts src seq ek rs rt : Int} {re im : Nat} {x y : Int} (hp : Pt re im x y) (b : Nat) (w : World) (h : w.heap[b]? = some (.cells #[.int .u8 kd, .int .i64 ts, .int .i64 src, .int .i64 seq, .int .i64 ek, .complex .f64 re im, .int .i64 rs, .int .i64 rt] 34 (0, 0))) :
    Calls Try.prog 111 #[.pointer (some ⟨b, 0, none⟩)] w fun e w' => e = .returned (.bool (decide (rs = 0 ∧ rt = 0) && evR ts 0 seq ek)) ∧ Below w.heap.size w w' := by
  have H1 := Lib.hid (fun w => eventRight_Pt (ts := ts) (src := 0) (seq := seq) (kind := ek) hp w)
  have c1 : w.cell? ⟨b, 1, none⟩ = some (.int .i64 ts) := by simp [World.cell?, h]
  have c2 : w.cell? ⟨b, 2, none⟩ = some (.int .i64 src) := by simp [World.cell?, h]
  have c3 : w.cell? ⟨b, 3, none⟩ = some (.int .i64 seq) := by simp [World.cell?, h]
  have c4 : w.cell? ⟨b, 4, none⟩ = some (.int .i64 ek) := by simp [World.cell?, h]
  have c5 : w.cell? ⟨b, 5, none⟩ = some (.complex .f64 re im) := by simp [World.cell?, h]
  have c6 : w.cell? ⟨b, 6, none⟩ = some (.int .i64 rs) := by simp [World.cell?, h]
  have c7 : w.cell? ⟨b, 7, none⟩ = some (.int .i64 rt) := by simp [World.cell?, h]
  have hb : b < w.heap.size := heap_lt h
  clear h hp
  go_enter Try.func111, Try.ntmps111
  go_wp2_with (go_at_call 61; (with_reducible refine (H1.out _).mono ?_); rintro e w1 ⟨rfl, hb1⟩; have hB := Lib.hid hb1; clear hb1)
  all_goals go_ret
  · exact ⟨ret_bool (by simp [*]), ((Below.refl _ _).alloc (Nat.le_refl _) _).trans (hB.out.mono (by simp))⟩
  · exact ⟨ret_bool (by simp [*]), (Below.refl _ _).alloc (Nat.le_refl _) _⟩
  · exact ⟨ret_bool (by simp [*]), (Below.refl _ _).alloc (Nat.le_refl _) _⟩

set_option maxHeartbeats 1000000 in
/-- The second closure: a mark's record may be, but for its source. -/
theorem fine2 {rt : Int} {nn : Bool} (b bn : Nat) (w : World) (h : w.cell? ⟨b, 7, none⟩ = some (.int .i64 rt)) (hn : w.cell? ⟨bn, 0, none⟩ = some (.bool nn)) :
    Calls Try.prog 112 #[.pointer (some ⟨bn, 0, none⟩), .pointer (some ⟨b, 0, none⟩)] w fun e w' => e = .returned (.bool (nn && (decide (0 ≤ rt) && decide (rt ≤ 1099511627776)))) ∧ Below w.heap.size w w' := by
  cases nn
  all_goals
    go_enter Try.func112, Try.ntmps112
    go_wp2
    all_goals go_ret
    all_goals exact ⟨ret_bool (by simp; try omega), Below.refl _ _⟩

/-- The event's numbers are all 0. -/
def zeroE (ts src seq ek x y : Int) : Bool := decide (ts = 0 ∧ src = 0 ∧ seq = 0 ∧ ek = 0 ∧ x = 0 ∧ y = 0)

/-- What 'kinds' has made. -/
structure Kinds (ts src rs rt : Int) (nn : Bool) (cells : Array Value) (n : Nat) (v : Value) (w : World) : Prop where
  is : ∃ br bn bm : Nat, v = .map (some bm) ∧ n ≤ br ∧ n ≤ bn ∧ n ≤ bm ∧
    w.heap[bm]? = some (.map #[⟨.int .u8 1, .agg #[.int .i64 src, .int .i64 ts, .func (.func 111) #[] #[.pointer (some ⟨br, 0, none⟩)]], 0⟩, ⟨.int .u8 2, .agg #[.int .i64 rs, .int .i64 rt, .func (.func 112) #[] #[.pointer (some ⟨bn, 0, none⟩), .pointer (some ⟨br, 0, none⟩)]], 1⟩] 2) ∧
    w.heap[br]? = some (.cells cells 34 (0, 0)) ∧ w.heap[bn]? = some (.cells #[.bool nn] 4 (0, 0))

set_option maxHeartbeats 1000000 in
theorem kinds_Pt {kd ts src seq ek rs rt : Int} {re im : Nat} {x y : Int} (hp : Pt re im x y) (w : World) :
    Calls Try.prog 95 #[.agg #[.int .u8 kd, .int .i64 ts, .int .i64 src, .int .i64 seq, .int .i64 ek, .complex .f64 re im, .int .i64 rs, .int .i64 rt]] w fun e w' => (∃ v, e = .returned v ∧
      Kinds ts src rs rt (zeroE ts src seq ek x y) #[.int .u8 kd, .int .i64 ts, .int .i64 src, .int .i64 seq, .int .i64 ek, .complex .f64 re im, .int .i64 rs, .int .i64 rt] w.heap.size v w') ∧ Below w.heap.size w w' := by
  have h1 : ∀ w, Calls Try.prog 102 #[.agg #[.int .i64 ts, .int .i64 src, .int .i64 seq, .int .i64 ek, .complex .f64 re im], .agg #[.int .i64 0, .int .i64 0, .int .i64 0, .int .i64 0, .complex .f64 0 0]] w fun e w' =>
      e = .returned (.bool (zeroE ts src seq ek x y)) ∧ Below w.heap.size w w' := fun w => eventSame_Pt hp ⟨FI_0, FI_0, by decide, by decide⟩ w
  have H1 := Lib.hid h1
  clear h1
  generalize hz0 : zeroE ts src seq ek x y = nn at *
  have i1 := ins1
  have i2 := ins2
  have mm := @run_makeMap Try.prog
  clear hp hz0
  go_enter Try.func95, Try.ntmps95
  go_wp2_with (go_at_call 102; (with_reducible refine (H1.out _).mono ?_); rintro e w1 ⟨rfl, hb1⟩; obtain ⟨hc1, hf1⟩ := bcell hb1; have hz : w.heap.size < w1.heap.size := (by (have hs := hb1.size; simp at hs; omega)); have hB := Lib.hid hb1; clear hb1)
  refine bodyPost_ret (results_tmp rfl _ _ _) rfl ⟨⟨_, rfl, ⟨w.heap.size, w1.heap.size, w1.heap.size + 1, rfl, ?_, ?_, ?_, ?_, ?_, ?_⟩⟩, ?_⟩
  · omega
  · omega
  · omega
  · have := World.alloc_heap_new (w1.alloc (.cells #[.bool nn] 4)) (.map #[⟨.int .u8 1, .agg #[.int .i64 src, .int .i64 ts, .func (.func 111) #[] #[.pointer (some ⟨w.heap.size, 0, none⟩)]], 0⟩, ⟨.int .u8 2, .agg #[.int .i64 rs, .int .i64 rt, .func (.func 112) #[] #[.pointer (some ⟨w1.heap.size, 0, none⟩), .pointer (some ⟨w.heap.size, 0, none⟩)]], 1⟩] 2)
    rwa [World.size_alloc] at this
  · exact (Below.heap_alloc _ _ _ (by simp; omega)).trans ((Below.heap_alloc _ _ _ hz).trans ((hB.out.block _ (by simp)).trans (World.alloc_heap_new w _)))
  · exact (Below.heap_alloc _ _ _ (by simp)).trans (World.alloc_heap_new w1 _)
  · exact ((((Below.refl _ _).alloc (Nat.le_refl _) _).trans (hB.out.mono (by simp))).alloc (by omega) _).alloc (by simp; omega) _

end Go.Proofs.Ytcbneobdelbhlaa
