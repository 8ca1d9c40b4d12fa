/-
  Walks of package num: Put.
-/
import Derived.Test.YtcbneobdelbhlaaWc
import Derived.Test.YtcbneobdelbhlaaRe
import Derived.Stop.RegionWithIn
import Derived.Deep.Onto
import Derived.RangeFuncBox
import Derived.Deep.AppendLies
namespace Go.Proofs.Ytcbneobdelbhlaa
open Go.RowKit Go.Shelf
attribute [local go_sem] Oper.semAt_some

theorem shifts_any (k : Int) (w : World) :
    Calls Try.prog 75 #[.int .i64 k] w fun e w' => e = .returned (.func (.func 96) #[] #[.pointer (some ⟨w.heap.size, 0, none⟩)]) ∧ (w.alloc (.cells #[.int .i64 k] 3)) = w' := by
  go_enter Try.func75, Try.ntmps75
  go_wp2
  go_ret
  exact ⟨rfl, rfl⟩

/-- An append that the walk's simp does not open: it waits for its law. -/
@[irreducible] def AppIn (F : Fence) (n : Nat) (P : Program) (o : Oper) (a : Act) (w : World) (K : Act → World → Prop) (Q : Exit → Act → World → Prop) : Prop := o.wpIn F n P a w K Q

theorem appIn_eq {F : Fence} {n : Nat} {P : Program} {d : Option Tmp} {s x : Operand} {t ty : TypeId} {pos : String} {af : Array Edge} {g : Option (Tmp × Bool)} {a : Act} {w : World} {K : Act → World → Prop} {Q : Exit → Act → World → Prop} :
    Oper.wpIn F n P ⟨d, .call { callee := .builtin .append, args := #[s, x], argTypes := #[t, t] }, ty, pos, af, g⟩ a w K Q = AppIn F n P ⟨d, .call { callee := .builtin .append, args := #[s, x], argTypes := #[t, t] }, ty, pos, af, g⟩ a w K Q := by unfold AppIn; rfl

theorem AppIn.own {F : Fence} {n : Nat} {P : Program} {w : World} {o : Oper} {a : Act} {K : Act → World → Prop} {Q : Exit → Act → World → Prop} {s x : Operand} {t : TypeId}
    (hop : o.op = Op.call { callee := Callee.builtin Builtin.append, args := #[s, x], argTypes := #[t, t] })
    {base : Nat} {e : TypeId} {i : TypeInfo} {z : Value} {size bytes : Nat} (ht : P.underlying t = some (.slice e)) (hi : P.info? e = some i) (hz : i.zero = some z) (hsize : i.size = size) (hby : i.bytes = bytes) (hzs : z.cells.size = size) (hsz : 0 < size)
    {v : Value} {k : Nat} {xs : List Value} (hs : a.eval s = v) (hown : w.ownsRow base e size v k xs) {ad : Addr} {m c : Nat} {news : List Value} (hx : a.eval x = .slice (some ad) m c) (hn : news.length = m * size)
    (hc : ∀ j u, news[j]? = some u → w.cell? (ad.add j) = some u) (h1c : ∀ u ∈ news, u.oneCell' = true) (b1 : k + m ≤ maxLen) (b2 : (k + m) * bytes ≤ 140737488355328) (b3 : base ≤ w.heap.size)
    (hK : ∀ v' w', w'.ownsRow base e size v' (k + m) (xs ++ news) → w.grownBy w' v.ownBlock → (v'.ownBlock = v.ownBlock ∨ v'.ownBlock = some w.heap.size) → K (a.put o.dst v') w') :
    AppIn F n P o a w K Q := by
  obtain ⟨v', w', hrun, r1, r2, _, r3⟩ := run_append_own_at (P := P) w base t o.type e i z size bytes ht hi hz hsize hby hzs hsz v k xs hown ad m c news hn hc h1c b1 b2 b3
  unfold AppIn Oper.wpIn
  refine ⟨?_, ?_⟩
  · simp [Oper.about, hop, resolve, Target.leads, Sem.run_pure]
  · rw [Oper.semAt_plain F _ _ (by rw [hop]; intro c hc'; cases hc')]
    simp [execOp, hop, resolve, invoke, builtin, hs, hx, hrun, Result.andThen]
    exact hK _ _ r1 r2 r3

theorem wpIn_at_zero {F : Fence} {n : Nat} {P : Program} {o : Oper} {l : List Oper} {h : 0 < (o :: l).toArray.size} {a : Act} {w : World} {K : Act → World → Prop} {Q : Exit → Act → World → Prop} :
    Oper.wpIn F n P ((o :: l).toArray[0]'h) a w K Q = Oper.wpIn F n P o a w K Q := rfl
theorem wpIn_at_succ {F : Fence} {m : Nat} {P : Program} {o : Oper} {l : List Oper} {n : Nat} {h : n + 1 < (o :: l).toArray.size} {a : Act} {w : World} {K : Act → World → Prop} {Q : Exit → Act → World → Prop} :
    Oper.wpIn F m P ((o :: l).toArray[n + 1]'h) a w K Q = Oper.wpIn F m P (l.toArray[n]'(by simpa using h)) a w K Q := rfl
attribute [local go_sem ↓] wpIn_at_zero wpIn_at_succ
attribute [local go_sem ↓ high] appIn_eq

/-- The byte of n at the shift s. -/
def byteAt (n s : Int) : Int := n / 2 ^ s.toNat % 256

def PutI (n0 : Nat) (w : World) (num : Int) (k : Nat) (pre : List Int) (W : World) : Prop :=
  pre = (shiftsOf k).take pre.length ∧ Below n0 w W ∧ n0 + 3 ≤ W.heap.size ∧ W.cell? ⟨n0, 0, none⟩ = some (.int .i64 num) ∧ W.frozen? ⟨n0 + 1, 0, none⟩ = false ∧
    ∃ v, W.cell? ⟨n0 + 1, 0, none⟩ = some v ∧ W.ownsRow (n0 + 3) 5 1 v pre.length ((pre.map (byteAt num)).map (Value.int .u8))

theorem byte_wrap (n x : Int) (h0 : 0 ≤ x) (h1 : x ≤ 56) : IntKind.u8.wrap (IntKind.u64.wrap n / 2 ^ x.toNat) = byteAt n x := by
  obtain ⟨s, rfl⟩ := Int.eq_ofNat_of_zero_le h0
  have hs : s ≤ 56 := by omega
  show (n % 18446744073709551616) / 2 ^ s % 256 = n / 2 ^ s % 256
  have e : (18446744073709551616 : Int) = 2 ^ s * (2 ^ (56 - s) * 256) := by
    have h2 : (2 : Int) ^ s * 2 ^ (56 - s) = 2 ^ 56 := by rw [← Int.pow_add]; congr 1; omega
    rw [← Int.mul_assoc, h2]; rfl
  have hA : (2 : Int) ^ s ≠ 0 := by have := Int.pow_pos (n := 2) (m := s) (by decide); omega
  have hn := Int.emod_add_mul_ediv n 18446744073709551616
  generalize hr : n % 18446744073709551616 = r at *
  generalize hq : n / 18446744073709551616 = q at *
  rw [e] at hn
  generalize (2 : Int) ^ s = A at *
  generalize (2 : Int) ^ (56 - s) = B at *
  rw [← hn, show A * (B * 256) * q = A * (256 * (B * q)) by rw [Int.mul_assoc, Int.mul_comm B 256, Int.mul_assoc], Int.add_mul_ediv_left _ _ hA, Int.add_mul_emod_self_left]

theorem info5 : (Try.prog.info? 5).map (fun i => (i.zero, i.size, i.bytes)) = some (some (.int .u8 0), 1, 1) := by kernel_rfl
theorem und30 : Try.prog.underlying 30 = some (.slice 5) := by kernel_rfl

theorem put_step {n0 k : Nat} {w W w1 : World} {num x : Int} {pre : List Int} {v v' : Value} {o : Obj}
    (hb : Below n0 w W) (hs : n0 + 3 ≤ W.heap.size) (hown : W.ownsRow (n0 + 3) 5 1 v pre.length ((pre.map (byteAt num)).map (Value.int .u8)))
    (hx : pre ++ [x] = (shiftsOf k).take (pre.length + 1)) (c0 : W.cell? ⟨n0, 0, none⟩ = some (.int .i64 num)) (f1 : W.frozen? ⟨n0 + 1, 0, none⟩ = false) (c1 : W.cell? ⟨n0 + 1, 0, none⟩ = some v)
    (hown' : w1.ownsRow (n0 + 3) 5 1 v' (pre.length + 1) ((pre.map (byteAt num)).map (Value.int .u8) ++ [.int .u8 (byteAt num x)])) (hgrow : ((W.alloc o).drew).grownBy w1 v.ownBlock) :
    w1.cell? ⟨n0 + 1, 0, none⟩ = some v ∧ w1.frozen? ⟨n0 + 1, 0, none⟩ = false ∧
    Kept (ZB (n0 + 3) fun i => i = n0 + 2) W (w1.setCell ⟨n0 + 1, 0, none⟩ v') ∧ PutI n0 w num k (pre ++ [x]) (w1.setCell ⟨n0 + 1, 0, none⟩ v') := by
  have hrow : ∀ j, v.ownBlock = some j → n0 + 3 ≤ j := fun j hj => (hown.lt j hj).1
  have far : ∀ j, j < n0 + 3 → (W.drew.alloc o).heap[j]? = W.heap[j]? := fun j hj => Below.heap_alloc W.drew o j (by show j < W.heap.size; omega)
  have far1 : ∀ j, j < n0 + 3 → w1.heap[j]? = W.heap[j]? := fun j hj => (hgrow.block j (by simp; omega) (fun e => by have := hrow j e.symm; omega)).trans (far j hj)
  have cc1 : w1.cell? ⟨n0 + 1, 0, none⟩ = some v := (World.cell?_of_block (a := ⟨n0 + 1, 0, none⟩) (far1 (n0 + 1) (by omega))).trans c1
  have ff1 : w1.frozen? ⟨n0 + 1, 0, none⟩ = false := (World.frozen?_of_block (a := ⟨n0 + 1, 0, none⟩) (far1 (n0 + 1) (by omega))).trans f1
  have cc0 : w1.cell? ⟨n0, 0, none⟩ = some (.int .i64 num) := (World.cell?_of_block (a := ⟨n0, 0, none⟩) (far1 n0 (by omega))).trans c0
  have hsz := hgrow.size
  refine ⟨cc1, ff1, ZB_set (Kept.grown (((Kept.refl _ W).drew).alloc o) hgrow ?_) cc1 (by simp) _, ?_, ?_, ?_, ?_, ?_, v', ?_, ?_⟩
  · intro j o' hj ho' hz
    rcases hown.2 with ⟨rfl, _⟩ | ⟨g, cap, cur, rfl, hg, hh, _⟩
    · simp [Value.ownBlock] at hj
    · have : g = j := by simpa [Value.ownBlock] using hj
      subst this
      have h2 := (Below.heap_alloc W.drew o g (heap_lt hh)).trans hh
      rw [h2] at ho'
      cases ho'
      rcases hz with hz | ⟨_, hz⟩
      · omega
      · cases hz
  · simp only [List.length_append, List.length_cons, List.length_nil, Nat.zero_add]; exact hx
  · exact ((((hb.drew).alloc (by show n0 ≤ W.heap.size; omega) o).grown hgrow (by simp; omega) (fun j hj => by have := hrow j hj; omega)).setCell (p := ⟨n0 + 1, 0, none⟩) (by simp) _)
  · simp [World.setCell] at hsz ⊢; omega
  · rw [World.cell?_setCell_other _ _ _ _ (by simp)]; exact cc0
  · rw [World.frozen?_setCell]; exact ff1
  · exact World.cell?_setCell_same' _ _ _ (by rw [cc1]; rfl)
  · simp only [List.length_append, List.length_cons, List.length_nil, Nat.zero_add, List.map_append, List.map_cons, List.map_nil]
    exact ownsRow_setCell_below hown' (by simp) _

theorem PutI.keep {n0 k c : Nat} {w A B : World} {num : Int} {pre : List Int} (hc : n0 ≤ c) (h : PutI n0 w num k pre A) (hk : Kept (ZI c fun _ => False) A B) : PutI n0 w num k pre B := by
  obtain ⟨e1, hb, hs, c0, f1, v, c1, hown⟩ := h
  exact ⟨e1, ZI_below hk hb hc (by omega) (fun _ _ h => h.elim), Nat.le_trans hs hk.size, ZI_cell hk c0 (fun h => h.elim), (ZI_frozen hk c1 (fun h => h.elim)).trans f1, v, ZI_cell hk c1 (fun h => h.elim), ZI_row hk hown (fun _ _ h => h.elim)⟩

set_option maxHeartbeats 4000000 in
theorem put_any (num : Int) (k : Nat) (h1 : 1 ≤ k) (h8 : k ≤ 8) (w : World) :
    Calls Try.prog 45 #[.int .i64 num, .int .i64 k] w fun e w' => ∃ v, e = .returned v ∧ w'.ownsRow w.heap.size 5 1 v k (((shiftsOf k).map (byteAt num)).map (Value.int .u8)) ∧ Below w.heap.size w w' := by
  refine calls_of_wp_m Try.func45 rfl ?_
  simp only [Try.ntmps45, List.size_toArray, List.length_cons, List.length_nil, Nat.reduceAdd, Nat.reduceSub, Array.replicate_succ, Array.replicate_zero, List.push_toArray, List.append_toArray, List.nil_append, List.cons_append]
  go_wp2_with (go_at_call 75; refine (shifts_any _ _).mono ?_; rintro e w1 ⟨rfl, rfl⟩)
  refine wp_range (gf := 96) rfl (enters_of Try.func96 (by kernel_rfl) rfl) (shifts_seq k (w.heap.size + 2) h1 h8 _ (by simp [go_sem])) (by rintro k rfl; simp) (fun _ h => h.elim) (fun _ => rfl)
    (PutI w.heap.size w num k) (fun _ _ _ => False) ?hI (fun _ _ _ _ h _ => h) ?h0
    (fun pre x a' W => Fr a' #[.int .i64 num, .int .i64 k, .pointer (some ⟨w.heap.size, 0, none⟩), undef, .pointer (some ⟨w.heap.size + 1, 0, none⟩), .int .i64 x, .int .i64 k, .func (.func 96) #[] #[.pointer (some ⟨w.heap.size + 1 + 1, 0, none⟩)], .int .i64 x, undef, undef, undef, undef, undef, undef, undef, undef, undef] ∧
      Fact (PutI w.heap.size w num k pre W ∧ pre.length < k ∧ pre ++ [x] = (shiftsOf k).take (pre.length + 1)))
    ?hA ?assign ?body ?done (fun _ _ _ _ _ _ h => h.elim)
  case hI =>
    intro s A B h hk
    exact PutI.keep (by simp; omega) h hk
  case h0 => exact ⟨rfl, (((Below.refl _ w).alloc (Nat.le_refl _) _).alloc (by simp) _).alloc (by simp; omega) _, by simp, by simp [go_sem], by simp [go_sem], .slice none 0 0, by simp [go_sem], World.ownsRow_nil _ _ _ _⟩
  case hA =>
    intro pre x a' A B h hk
    exact ⟨h.1, PutI.keep (by simp; omega) h.2.1 hk, h.2.2⟩
  case assign =>
    rintro l pre x W hI _ hg
    unfold encInt
    gi_wp2
    exact ⟨Kept.refl _ _, rfl, hI, hg⟩
  case body =>
    obtain ⟨i0, hi, hz0, hz1, hz2⟩ := info_parts info5
    rintro l pre x a' W ⟨rfl, ⟨⟨e1, hb, hs, c0, f1, v, c1, hown⟩, hlt, hx⟩⟩
    have hxv : x = 8 * ((k : Int) - 1 - (pre.length : Int)) := by
      rw [shiftsOf_take k _ hlt] at hx
      have := List.append_inj_right' hx rfl
      simpa using this
    have x0 : 0 ≤ x := by omega
    have x1 : x ≤ 56 := by omega
    have X := Lib.hid (And.intro e1 (And.intro hb (And.intro hs (And.intro hown (And.intro hlt (And.intro hx hxv))))))
    have ne0 : W.heap.size ≠ w.heap.size := by omega
    have ne1 : W.heap.size ≠ w.heap.size + 1 := by omega
    have lt0 : w.heap.size < W.heap.size := by omega
    have lt1 : w.heap.size + 1 < W.heap.size := by omega
    clear e1 hb hs hown hlt hx hxv
    gi_wp2
    gi_region_with (obtain ⟨e1, hb, hs, hown, hlt, hx, hxv⟩ := X.out; refine AppIn.own (base := w.heap.size + 3) (e := 5) (z := .int .u8 0) (size := 1) (bytes := 1) rfl und30 hi hz0 hz1 hz2 rfl (by decide) (v := v) (k := pre.length) (xs := (pre.map (byteAt num)).map (Value.int .u8)) (by rfl) (World.ownsRow.drew (World.ownsRow.alloc hown _)) (ad := ⟨W.heap.size, 0, none⟩) (m := 1) (c := 1) (news := [.int .u8 (byteAt num x)]) (by rfl) (by rfl) (by intro j u hj; match j, hj with | 0, hj => (simp at hj; subst hj; simp [Addr.add, byte_wrap num x x0 x1, go_sem])) (by intro u hu; simp at hu; subst hu; rfl) (by unfold maxLen; omega) (by omega) (by simp; omega) ?_; intro v' w1 hown' hgrow hat; obtain ⟨g', cap', rfl, _, _⟩ := hown'.form (by omega); have Y := put_step hb hs hown hx c0 f1 c1 hown' hgrow; have cc := Y.1; have ff := Y.2.1; have Z := Lib.hid Y.2.2; clear hown' hgrow hat Y e1 hb hs hown hlt hx hxv)
    all_goals gi_wp2
    all_goals (show Kept (ZB _ _) _ _ ∧ _; simp only [World.size_alloc]; exact Z.out)
  case done =>
    rintro D xs W hD rfl ⟨_, hb, hs, c0, f1, v, c1, hown⟩ hK
    rw [shiftsOf_len] at hown
    obtain ⟨g, cap, rfl, _, _⟩ := hown.form (by omega)
    have X := Lib.hid (And.intro hb (And.intro hs (And.intro hown (show w.heap.size + 3 ≤ D by simpa using hD))))
    have XK := Lib.hid hK
    clear hb hs hown hK hD
    go_wp2
    obtain ⟨hb, hs, hown, hD⟩ := X.out
    have hK2 := set_defer XK.out c1 (.slice (some ⟨g, 0, none⟩) k cap)
    refine postM_ret1 (D := D) hK2 (v := .slice (some ⟨g, 0, none⟩) k cap) ?_ ⟨_, rfl, ?_, ?_⟩
    · have hc := put_cell hK2 (World.cell?_setCell_same' _ _ (.slice (some ⟨g, 0, none⟩) k cap) (by rw [c1]; rfl)) (.deferred none)
      simp [results, Try.results45, go_sem, hc]
    · refine World.ownsRow.mono (base := w.heap.size + 3) ?_ (by omega)
      refine ownsRow_putObj (ownsRow_setCell_below hown (by simp) _) _ hK2 rfl
    · exact below_putObj (hb.setCell (p := ⟨w.heap.size + 1, 0, none⟩) (by simp) _) (by omega) _

end Go.Proofs.Ytcbneobdelbhlaa
