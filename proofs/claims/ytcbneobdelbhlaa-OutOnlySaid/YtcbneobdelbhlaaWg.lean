/-
  Walks of package wire: Put.
-/
import Derived.Test.YtcbneobdelbhlaaWf
namespace Go.Proofs.Ytcbneobdelbhlaa
open Go.RowKit Go.Shelf
attribute [local go_sem] Oper.semAt_some
attribute [local go_sem ↓] wpIn_at_zero wpIn_at_succ
attribute [local go_sem ↓ high] appIn_eq

theorem box2_facts {w w1 : World} {c0 c1 c2 c3 c4 c5 c6 c7 u : Value} {t t' : TypeId} (hb : Below ((w.alloc (.cells #[c0, c1, c2, c3, c4, c5, c6, c7] t)).alloc (.cells #[u] t')).heap.size ((w.alloc (.cells #[c0, c1, c2, c3, c4, c5, c6, c7] t)).alloc (.cells #[u] t')) w1) :
    w1.heap[w.heap.size]? = some (.cells #[c0, c1, c2, c3, c4, c5, c6, c7] t (0, 0)) ∧ w1.heap[w.heap.size + 1]? = some (.cells #[u] t' (0, 0)) ∧ w.heap.size + 2 ≤ w1.heap.size := by
  refine ⟨?_, ?_, ?_⟩
  · rw [hb.block _ (by simp; omega), Below.heap_alloc _ _ _ (by simp)]
    exact World.alloc_heap_new w _
  · rw [hb.block _ (by simp)]
    exact heap_top (by simp)
  · have := hb.size
    simp at this
    omega

theorem row8 {w : World} {b : Nat} {c0 c1 c2 c3 c4 c5 c6 c7 : Value} {t : TypeId} (h : w.heap[b]? = some (.cells #[c0, c1, c2, c3, c4, c5, c6, c7] t (0, 0))) :
    w.cell? ⟨b, 0, none⟩ = some c0 ∧ w.cell? ⟨b, 1, none⟩ = some c1 ∧ w.cell? ⟨b, 2, none⟩ = some c2 ∧ w.cell? ⟨b, 3, none⟩ = some c3 ∧ w.cell? ⟨b, 4, none⟩ = some c4 ∧ w.cell? ⟨b, 5, none⟩ = some c5 ∧ w.cell? ⟨b, 6, none⟩ = some c6 ∧ w.cell? ⟨b, 7, none⟩ = some c7 := by
  simp [World.cell?, h]

theorem PW_start {w w1 w2 : World} {c0 c1 c2 c3 c4 c5 c6 c7 : Value} {kd : Int} {zs : List Int} {ws : List Nat} {b3 bs : Nat}
    (hb : Below ((w.alloc (.cells #[c0, c1, c2, c3, c4, c5, c6, c7] 34)).alloc (.cells #[.slice none 0 0] 30)).heap.size ((w.alloc (.cells #[c0, c1, c2, c3, c4, c5, c6, c7] 34)).alloc (.cells #[.slice none 0 0] 30)) w1)
    (hu : w1.heap[w.heap.size + 1]? = some (.cells #[.slice none 0 0] 30 (0, 0))) (hlt : w.heap.size + 1 < w1.heap.size) (_hm : 1 ≤ ws.length)
    (hN : NumsAt ((((w1.setCell ⟨w.heap.size + 1, 0, none⟩ (.slice (some ⟨w1.heap.size, 0, none⟩) 1 1)).alloc (.cells #[.int .u8 kd] 5)).alloc (.cells (ws.map fun (k : Nat) => Value.int .i64 (k : Int)).toArray 3)).alloc (.cells #[.slice (some ⟨w1.heap.size + 1, 0, none⟩) ws.length ws.length] 59)).heap.size w2 b3 bs zs)
    (hb2 : Below ((((w1.setCell ⟨w.heap.size + 1, 0, none⟩ (.slice (some ⟨w1.heap.size, 0, none⟩) 1 1)).alloc (.cells #[.int .u8 kd] 5)).alloc (.cells (ws.map fun (k : Nat) => Value.int .i64 (k : Int)).toArray 3)).alloc (.cells #[.slice (some ⟨w1.heap.size + 1, 0, none⟩) ws.length ws.length] 59)).heap.size
      ((((w1.setCell ⟨w.heap.size + 1, 0, none⟩ (.slice (some ⟨w1.heap.size, 0, none⟩) 1 1)).alloc (.cells #[.int .u8 kd] 5)).alloc (.cells (ws.map fun (k : Nat) => Value.int .i64 (k : Int)).toArray 3)).alloc (.cells #[.slice (some ⟨w1.heap.size + 1, 0, none⟩) ws.length ws.length] 59)) w2) :
    PW w.heap.size w kd zs ws (w1.heap.size + 1 + 1) (w1.heap.size + 1) b3 bs [] w2 ∧ w1.heap.size + 3 ≤ b3 ∧ w1.heap.size + 3 ≤ bs ∧ b3 < w2.heap.size ∧ bs < w2.heap.size ∧ w1.heap.size + 3 ≤ w2.heap.size := by
  generalize hW3 : w1.setCell ⟨w.heap.size + 1, 0, none⟩ (.slice (some ⟨w1.heap.size, 0, none⟩) 1 1) = W3 at *
  have s3 : W3.heap.size = w1.heap.size := by rw [← hW3]; simp [World.setCell]
  have u3 : W3.heap[w.heap.size + 1]? = some (.cells #[.slice (some ⟨w1.heap.size, 0, none⟩) 1 1] 30 (0, 0)) := by rw [← hW3]; exact set_heap hu
  have d3 : Below w.heap.size w W3 := by
    rw [← hW3]
    exact ((((Below.refl _ w).alloc (Nat.le_refl _) _).alloc (by simp) _).trans (hb.mono (by simp; omega))).setCell (p := ⟨w.heap.size + 1, 0, none⟩) (by simp) _
  clear hW3
  obtain ⟨hn1, hn2, hn3, hn4⟩ := hN
  simp only [World.size_alloc, s3] at hn1 hn2
  have s2 := hb2.size
  simp only [World.size_alloc, s3] at s2
  have back : ∀ {j : Nat} {o : Obj}, (((W3.alloc (.cells #[.int .u8 kd] 5)).alloc (.cells (ws.map fun (k : Nat) => Value.int .i64 (k : Int)).toArray 3)).alloc (.cells #[.slice (some ⟨w1.heap.size + 1, 0, none⟩) ws.length ws.length] 59)).heap[j]? = some o → w2.heap[j]? = some o := fun h => (hb2.block _ (heap_lt h)).trans h
  refine ⟨⟨rfl, ?_, ⟨_, back (heap_later (heap_later (heap_later u3 _) _) _), ?_⟩, ⟨_, back (heap_top (by simp [s3])), fun _ => rfl⟩, back (heap_later (heap_top (by simp [s3])) _), ⟨_, hn3⟩, _, hn4⟩, by omega, by omega, heap_lt hn3, heap_lt hn4, by omega⟩
  · exact (((d3.alloc d3.size _).alloc (by have := d3.size; simp; omega) _).alloc (by have := d3.size; simp; omega) _).trans (hb2.mono (by have := d3.size; simp; omega))
  · refine ⟨by simp [bytesUp], .inr ⟨w1.heap.size, 1, #[.int .u8 kd], by simp [bytesUp], by omega, back (heap_later (heap_later (heap_top (by simp [s3])) _) _), by simp [bytesUp], by decide, by simp, by simp [bytesUp]⟩⟩

theorem wput_step' {n0 c : Nat} {w W w1 w2 : World} {kd x : Int} {zs : List Int} {ws : List Nat} {b4 bw b3 bs : Nat} {pre : List Int} {g cap L q : Nat} {v' : Value} {k : Nat}
    (hP : PW n0 w kd zs ws b4 bw b3 bs pre W) (hlt : pre.length < zs.length) (hzw : zs.length = ws.length) (hx : pre ++ [x] = zs.take (pre.length + 1)) (hk : ws.getD pre.length 0 = k)
    (g4 : n0 + 2 ≤ b4) (gw : n0 + 2 ≤ bw) (g3 : n0 + 2 ≤ b3) (gs : n0 + 2 ≤ bs) (ne : b4 ≠ b3) (hLL : (bytesUp kd zs ws pre.length).length = L) (hqq : ws.length - pre.length = q)
    (hv : W.heap[n0 + 1]? = some (.cells #[.slice (some ⟨g, 0, none⟩) L cap] 30 (0, 0)))
    (hown : W.ownsRow (n0 + 2) 5 1 (.slice (some ⟨g, 0, none⟩) L cap) L ((bytesUp kd zs ws pre.length).map (Value.int .u8)))
    (hb1 : Below W.heap.size W w1)
    (hown' : w2.ownsRow (n0 + 2) 5 1 v' (L + k) ((bytesUp kd zs ws pre.length).map (Value.int .u8) ++ (bytesOf x k).map (Value.int .u8)))
    (hgrow : w1.grownBy w2 (some g)) :
    w2.cell? ⟨n0 + 1, 0, none⟩ = some (.slice (some ⟨g, 0, none⟩) L cap) ∧ w2.frozen? ⟨n0 + 1, 0, none⟩ = false ∧
    (w2.setCell ⟨n0 + 1, 0, none⟩ v').cell? ⟨b4, 0, none⟩ = some (.slice (some ⟨bw, pre.length, none⟩) q q) ∧ (w2.setCell ⟨n0 + 1, 0, none⟩ v').frozen? ⟨b4, 0, none⟩ = false ∧
    ∀ A', (q ≠ 1 → A' = some ⟨bw, pre.length + 1, none⟩) →
      Kept (ZB c fun i => i = b3 ∨ i = bs) W ((w2.setCell ⟨n0 + 1, 0, none⟩ v').setCell ⟨b4, 0, none⟩ (.slice A' (q - 1) (q - 1))) ∧
      PW n0 w kd zs ws b4 bw b3 bs (pre ++ [x]) ((w2.setCell ⟨n0 + 1, 0, none⟩ v').setCell ⟨b4, 0, none⟩ (.slice A' (q - 1) (q - 1))) := by
  subst hLL
  subst hqq
  obtain ⟨h1, h2, ⟨A, h3, rfl⟩, h4, h5⟩ := wput_step (c := c) hP hlt hzw hx hk.symm g4 gw g3 gs ne hv hown hb1 hown' hgrow
  refine ⟨h1, h2, h3, h4, fun A' hA' => ?_⟩
  rw [Nat.sub_sub]
  exact h5 A' (fun h => hA' (by omega))

theorem row_below {W w1 : World} {base e size n : Nat} {v : Value} {xs : List Value} (h : W.ownsRow base e size v n xs) (hb : Below W.heap.size W w1) : w1.ownsRow base e size v n xs := by
  refine ⟨h.1, h.2.imp id ?_⟩
  rintro ⟨g, cap, cur, hv, hg, hh, r⟩
  exact ⟨g, cap, cur, hv, hg, (hb.block g (heap_lt hh)).trans hh, r⟩

set_option maxHeartbeats 4000000 in
theorem wput_yes (kd ts src seq ek rs rt : Int) (re im : Nat) (zs : List Int) (ws : List Nat) (hm : zs.length = ws.length) (h1 : 1 ≤ ws.length) (h6 : ws.length ≤ 6) (h8 : ∀ k ∈ ws, 1 ≤ k ∧ k ≤ 8)
    (H43 : ∀ w, Calls Try.prog 43 #[.agg #[.int .u8 kd, .int .i64 ts, .int .i64 src, .int .i64 seq, .int .i64 ek, .complex .f64 re im, .int .i64 rs, .int .i64 rt]] w fun e w' => e = .returned (.bool true) ∧ Below w.heap.size w w')
    (H41 : ∀ w, Calls Try.prog 41 #[.int .u8 kd] w fun e w' => e = .returned (.slice (some ⟨w.heap.size, 0, none⟩) ws.length ws.length) ∧ w.alloc (.cells (ws.map fun (k : Nat) => Value.int .i64 (k : Int)).toArray 3) = w')
    (H44 : ∀ w, Calls Try.prog 44 #[.agg #[.int .u8 kd, .int .i64 ts, .int .i64 src, .int .i64 seq, .int .i64 ek, .complex .f64 re im, .int .i64 rs, .int .i64 rt]] w fun e w' =>
      ∃ b bs, e = .returned (.func (.func 74) #[] #[.pointer (some ⟨b, 0, none⟩)]) ∧ NumsAt w.heap.size w' b bs zs ∧ Below w.heap.size w w')
    (w : World) :
    Calls Try.prog 16 #[.agg #[.int .u8 kd, .int .i64 ts, .int .i64 src, .int .i64 seq, .int .i64 ek, .complex .f64 re im, .int .i64 rs, .int .i64 rt]] w fun e w' =>
      ∃ v, e = .returned (.tuple #[v, .int .i64 0]) ∧ w'.ownsRow w.heap.size 5 1 v (bytesUp kd zs ws ws.length).length ((bytesUp kd zs ws ws.length).map (Value.int .u8)) ∧ Below w.heap.size w w' := by
  have K43 := Lib.hid H43
  have K41 := Lib.hid H41
  have K44 := Lib.hid H44
  have K8 := Lib.hid h8
  clear H43 H41 H44 h8
  refine calls_of_wp_m Try.func16 rfl ?_
  simp only [Try.ntmps16, List.size_toArray, List.length_cons, List.length_nil, Nat.reduceAdd, Nat.reduceSub, Array.replicate_succ, Array.replicate_zero, List.push_toArray, List.append_toArray, List.nil_append, List.cons_append]
  go_wp2_with (first | (go_at_call 43; refine (K43.out _).mono ?_; rintro e w1 ⟨rfl, hb⟩; have H := box2_facts hb; obtain ⟨hr, hu, hsz⟩ := H; obtain ⟨k0, k1, k2, k3, k4, k5, k6, k7⟩ := row8 hr; have kb := cell_of_one hu; have fb := free_of_one hu; have lt1 : w.heap.size + 1 < w1.heap.size := hsz; have lt0 : w.heap.size < w1.heap.size := (by omega); have ne1 : ¬ w1.heap.size = w.heap.size + 1 := (by omega); have ne0 : ¬ w1.heap.size = w.heap.size := (by omega); have lt2 : w.heap.size < w1.heap.size + 1 := (by omega); have lt3 : w.heap.size < w1.heap.size + 1 + 1 := (by omega); have ne2 : ¬ w1.heap.size + 1 = w.heap.size := (by omega); have ne3 : ¬ w1.heap.size + 1 + 1 = w.heap.size := (by omega); have ne4 : ¬ w1.heap.size + 1 = w.heap.size + 1 := (by omega); have ne5 : ¬ w1.heap.size + 1 + 1 = w.heap.size + 1 := (by omega); have hB := Lib.hid (And.intro hb (And.intro hr hu)); clear hb hr hu) | (go_at_call 41; refine (K41.out _).mono ?_; rintro e w' ⟨rfl, rfl⟩) | (go_at_call 44; refine (K44.out _).mono ?_; rintro e w2 ⟨b3, bs, rfl, hN, hb2⟩; have hN2 := Lib.hid (And.intro hN hb2); clear hN hb2))
  obtain ⟨hb, _, hu⟩ := hB.out
  obtain ⟨hP, hb3, hbs, hl3, hls, hl4⟩ := PW_start (zs := zs) hb hu lt1 h1 hN2.out.1 hN2.out.2
  obtain ⟨_, _, hn3, hn4⟩ := hN2.out.1
  have hcN : w2.cell? ⟨b3, 0, none⟩ = some (.slice (some ⟨bs, 0, none⟩) zs.length zs.length) := cell_of_one hn3
  have hcR : ∀ i, i < zs.length → w2.cell? ⟨bs, i, none⟩ = some (.int .i64 (zs.getD i 0)) := fun i hi => by
    rw [cell_of_row _ _ _ _ _ _ hn4]
    simp [List.getD_eq_getElem?_getD, List.getElem?_eq_getElem hi]
  generalize w1.heap.size = n1 at *
  clear hb hu hN2 hB hn3 hn4 k0 k1 k2 k3 k4 k5 k6 k7 kb fb
  refine wp_range (gf := 74) rfl (enters_of Try.func74 (by kernel_rfl) rfl) (numbers_seq b3 bs zs w2 (by omega) hcN hcR) (by rintro k (rfl | rfl) <;> omega) (fun _ h => h.elim) (fun _ => rfl)
    (PW w.heap.size w kd zs ws (n1 + 1 + 1) (n1 + 1) b3 bs) (fun _ _ _ => False) ?hI (fun _ _ _ _ h _ => h) hP
    (fun pre x a' W => Fr a' #[.agg #[.int .u8 kd, .int .i64 ts, .int .i64 src, .int .i64 seq, .int .i64 ek, .complex .f64 re im, .int .i64 rs, .int .i64 rt], .pointer (some ⟨w.heap.size, 0, none⟩), .pointer (some ⟨w.heap.size + 1, 0, none⟩), .int .i64 0, .pointer (some ⟨n1 + 1 + 1, 0, none⟩), .int .i64 x,
        .agg #[.int .u8 kd, .int .i64 ts, .int .i64 src, .int .i64 seq, .int .i64 ek, .complex .f64 re im, .int .i64 rs, .int .i64 rt], .bool true, .bool false, .pointer (some ⟨w.heap.size, 0, none⟩), .int .u8 kd, .slice (some ⟨n1, 0, none⟩) 1 1, .pointer (some ⟨w.heap.size, 0, none⟩), .int .u8 kd, .slice (some ⟨n1 + 1, 0, none⟩) ws.length ws.length,
        .agg #[.int .u8 kd, .int .i64 ts, .int .i64 src, .int .i64 seq, .int .i64 ek, .complex .f64 re im, .int .i64 rs, .int .i64 rt], .func (.func 74) #[] #[.pointer (some ⟨b3, 0, none⟩)], .int .i64 x, undef, undef, undef, undef, undef, undef, undef, undef, undef, undef] ∧
      Fact (PW w.heap.size w kd zs ws (n1 + 1 + 1) (n1 + 1) b3 bs pre W ∧ pre.length < zs.length ∧ pre ++ [x] = zs.take (pre.length + 1)))
    ?hA ?assign ?body ?done (fun _ _ _ _ _ _ h => h.elim)
  case hI => exact fun s A B h hk => h.keep (by omega) hk
  case hA => exact fun pre x a' A B h hk => ⟨h.1, h.2.1.keep (by omega) hk, h.2.2⟩
  case assign =>
    rintro l pre x W hI _ hg
    unfold encInt
    gi_wp2
    exact ⟨Kept.refl _ _, rfl, hI, hg⟩
  case body =>
    obtain ⟨i0, hi, hz0, hz1, hz2⟩ := info_parts info5
    rintro l pre x a' W ⟨rfl, hP, hlt, hx⟩
    obtain ⟨v, hv, hown⟩ := hP.box
    have hL := bytesUp_len (kd := kd) (zs := zs) (ws := ws) (fun k hk => (K8.out k hk).2) pre.length
    obtain ⟨g, cap, rfl, hg, _⟩ := hown.form (by simp [bytesUp])
    obtain ⟨A, h4, hA⟩ := hP.wbox
    have hjw : pre.length < ws.length := by omega
    obtain rfl := hA hjw
    have hk8 : 1 ≤ ws.getD pre.length 0 ∧ ws.getD pre.length 0 ≤ 8 := by
      rw [List.getD_eq_getElem?_getD, List.getElem?_eq_getElem hjw]
      exact K8.out _ (List.getElem_mem hjw)
    have cw : W.cell? ⟨n1 + 1, pre.length, none⟩ = some (.int .i64 ((ws.getD pre.length 0 : Nat) : Int)) := by
      rw [cell_of_row _ _ _ _ _ _ hP.wrow]
      simp [List.getD_eq_getElem?_getD, List.getElem?_eq_getElem hjw]
    have c0 := cell_of_one hv
    have f0 := free_of_one hv
    have c4 := cell_of_one h4
    have hq : 1 ≤ ws.length - pre.length := by omega
    have hq6 : ws.length - pre.length ≤ 6 := by omega
    have X := Lib.hid (And.intro hP (And.intro hlt (And.intro hx (And.intro hv (And.intro hown (And.intro hL hk8))))))
    clear hP hlt hx hv hown hL hk8 h4 hA
    generalize hkk : ws.getD pre.length 0 = k at *
    generalize hLL : (bytesUp kd zs ws pre.length).length = L at *
    generalize hqq : ws.length - pre.length = q at *
    have XX := Lib.hid (And.intro hkk (And.intro hLL hqq))
    clear hkk hLL hqq
    have q0 : 0 < q := by omega
    have kk1 : 1 ≤ k := X.out.2.2.2.2.2.2.1
    have kk2 : k ≤ 8 := X.out.2.2.2.2.2.2.2
    gi_wp2
    gi_region_with (first | (refine ⟨trivial, rfl, (CallsIn.inRound l (callsIn_wide.2 (put_any x k (by omega) (by omega) W.drew))).mono ?_⟩; rintro e u1 ⟨v1, rfl, hown1, hb1⟩; obtain ⟨g1, cp1, rfl, _, _⟩ := hown1.form (by omega); have c0' : u1.cell? ⟨w.heap.size + 1, 0, none⟩ = some (.slice (some ⟨g, 0, none⟩) L cap) := cell_below hb1 c0; have Y1 := Lib.hid (And.intro hb1 hown1); clear hb1 hown1) | (obtain ⟨hb1, hown1⟩ := Y1.out; obtain ⟨hP, hlt, hx, hv, hown, hL, hk8⟩ := X.out; obtain ⟨hkk, hLL, hqq⟩ := XX.out; have hb1' : Below W.heap.size W u1 := ⟨hb1.os, hb1.tape, hb1.output, hb1.size, hb1.block⟩; refine AppIn.own (base := w.heap.size + 2) (e := 5) (z := .int .u8 0) (size := 1) (bytes := 1) rfl und30 hi hz0 hz1 hz2 rfl (by decide) (v := .slice (some ⟨g, 0, none⟩) L cap) (k := L) (xs := (bytesUp kd zs ws pre.length).map (Value.int .u8)) (by rfl) (row_below hown hb1') (ad := ⟨g1, 0, none⟩) (m := k) (c := cp1) (news := (bytesOf x k).map (Value.int .u8)) (by rfl) (by simp [bytesOf_len]) (hown1.cells (g := g1) rfl) (by intro u hu; simp at hu; obtain ⟨_, _, rfl⟩ := hu; rfl) (by unfold maxLen; omega) (by omega) (by have := hb1'.size; have := heap_lt hv; omega) ?_; intro v' w3 hown' hgrow hat; obtain ⟨g', cap', rfl, _, _⟩ := hown'.form (by omega); obtain ⟨cc, ff, c4s, f4s, Z0⟩ := wput_step' (c := w2.heap.size) hP hlt hm hx hkk (by omega) (by omega) (by omega) (by omega) (by omega) hLL hqq hv hown hb1' hown' hgrow; have Z := Lib.hid Z0; clear hown' hgrow hat Z0 hb1 hown1 hP hlt hx hv hown hL hk8 hkk hLL hqq hb1'))
    all_goals (by_cases hq1 : q = 1)
    all_goals (try subst hq1)
    all_goals gi_wp2
    all_goals first | exact Z.out _ (fun h => absurd rfl h) | exact Z.out _ (fun _ => rfl)
  case done =>
    rintro D xs W hD rfl hP hK
    obtain ⟨v, hv, hown⟩ := hP.box
    obtain ⟨g, cap, rfl, _, _⟩ := hown.form (by simp [bytesUp])
    rw [hm] at hown hv
    have c1 := cell_of_one hv
    have f1 := free_of_one hv
    have X := Lib.hid (And.intro hP.below (And.intro hown (And.intro (heap_lt hv) (show w.heap.size + 3 ≤ D by omega))))
    have XK := Lib.hid hK
    clear hown hK hD hP hv
    generalize hLL : (bytesUp kd xs ws ws.length).length = L at *
    have HL := Lib.hid hLL
    clear hLL
    go_wp2
    obtain ⟨hb, hown, hs, hD⟩ := X.out
    have hK2 := set_defer XK.out c1 (.slice (some ⟨g, 0, none⟩) L cap)
    refine postM_ret1 (D := D) hK2 (v := .tuple #[.slice (some ⟨g, 0, none⟩) L cap, .int .i64 0]) ?_ ⟨_, rfl, ?_, ?_⟩
    · have hc := put_cell hK2 (World.cell?_setCell_same' _ _ (.slice (some ⟨g, 0, none⟩) L cap) (by rw [c1]; rfl)) (.deferred none)
      simp [results, Try.results16, go_sem, hc]
    · rw [HL.out]
      refine World.ownsRow.mono (base := w.heap.size + 2) ?_ (by omega)
      refine ownsRow_putObj (ownsRow_setCell_below hown (by simp) _) _ hK2 rfl
    · exact below_putObj (hb.setCell (p := ⟨w.heap.size + 1, 0, none⟩) (by simp) _) (by omega) _

end Go.Proofs.Ytcbneobdelbhlaa
