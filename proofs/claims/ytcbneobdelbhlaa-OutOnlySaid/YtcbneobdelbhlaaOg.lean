/-
  Package out: the parts of a match's bytes.
-/
import Derived.Test.YtcbneobdelbhlaaOf
namespace Go.Proofs.Ytcbneobdelbhlaa
open Go.RowKit Go.Shelf
attribute [local go_sem] Oper.semAt_some

def EvD.rc (e : EvD) : RecD := ⟨1, e.ts, e.src, e.seq, e.ek, e.x, e.y, 0, 0⟩
def EvD.bytes (e : EvD) : List Int := e.rc.bytes
theorem EvD.bytes_len (e : EvD) : e.bytes.length = 20 := by
  simp [EvD.bytes, EvD.rc, RecD.bytes, RecD.nums, bytesUp, bytesOf_len]
theorem bytesOf_byte {x : Int} {k : Nat} : ∀ z ∈ bytesOf x k, 0 ≤ z ∧ z ≤ 255 := by
  intro z hz
  obtain ⟨s, _, rfl⟩ := List.mem_map.1 hz
  unfold byteAt
  omega
theorem EvD.bytes_byte (e : EvD) : ∀ z ∈ e.bytes, 0 ≤ z ∧ z ≤ 255 := by
  intro z hz
  unfold EvD.bytes EvD.rc RecD.bytes bytesUp at hz
  rcases List.mem_cons.1 hz with rfl | hz
  · simp
  · obtain ⟨p, _, hp⟩ := List.mem_flatMap.1 hz
    exact bytesOf_byte z hp
theorem EvD.rc_right {e : EvD} (h : e.ok = true) : e.rc.right = true := by
  have := (evR_iff _ _ _ _).1 h
  have h2 : evR e.ts 0 e.seq e.ek = true := (evR_iff _ _ _ _).2 ⟨this.1, by omega, this.2.2⟩
  unfold RecD.right recR EvD.rc
  simp [h2]
  omega
theorem EvD.rc_inside {e : EvD} (h : e.inside) : e.rc.inside = true := (RecD.inside_iff _).2 h

theorem put_event (e : EvD) (hi : e.inside) (hr : e.ok = true) (w : World) :
    Calls Try.prog 16 #[.agg #[.int .u8 1, .int .i64 e.ts, .int .i64 e.src, .int .i64 e.seq, .int .i64 e.ek, .complex .f64 (fb e.x) (fb e.y), .int .i64 0, .int .i64 0]] w fun en w' =>
      ∃ g cap, en = .returned (.tuple #[.slice (some ⟨g, 0, none⟩) 20 cap, .int .i64 0]) ∧ Row w' g 0 e.bytes ∧ Ext w w' := by
  refine (put_ok e.rc e.bytes 20 (EvD.rc_inside hi) (EvD.rc_right hr) rfl (EvD.bytes_len e) (EvD.bytes_byte e) w).mono ?_
  rintro en w' ⟨g, cap, rfl, _, _, _, _, h, hE⟩
  exact ⟨g, cap, rfl, h, hE⟩

def partsM (kd : Int) (row : List Int) (evs : List EvD) : List (List Int) := [kd] :: bytesOf row.length 1 :: (row.map (fun z => bytesOf z 1) ++ evs.map EvD.bytes)

set_option maxHeartbeats 4000000 in
set_option maxRecDepth 100000 in
theorem parts_match (bo b cap b' cap' : Nat) (kd : Int) (hk : kd = 1 ∨ kd = 2) (row : List Int) (evs : List EvD) (h2 : row.length ≤ 4) (h3 : evs.length = row.length)
    (hin : ∀ e ∈ evs, e.inside) (hok : evs.all EvD.ok = true) (w : World) (hr : IntRow w b row) (he : EvRow w b' evs)
    (h : w.heap[bo]? = some (.cells #[.int .u8 kd, .slice (some ⟨b, 0, none⟩) row.length cap, .slice (some ⟨b', 0, none⟩) row.length cap', .int .i64 0, .int .u8 0] 64 (0, 0))) :
    SeqZ Try.prog 89 #[.pointer (some ⟨bo, 0, none⟩)] BX.enc (fun i => i = bo ∨ i = b ∨ i = b') (fun _ => False) (PartOk (partsM kd row evs)) (fun xs => xs.map BX.bs = partsM kd row evs) (fun _ => True) w := by
  intro l J Jx W hW hJ hJx hY h0
  have hb := hW.same _ _ h (.inl rfl)
  have HB := Lib.hid h
  have HY := Lib.hid hY
  have HJ := Lib.hid hJ
  have HW := Lib.hid hW
  have HR := Lib.hid hr
  have HE := Lib.hid he
  have HI := Lib.hid hin
  have HO := Lib.hid hok
  have H3 := Lib.hid h3
  have H0 := Lib.hid h0
  have f0 : (kd == 3) = false := by simp; omega
  have hkb : Hid (∀ x ∈ [kd], 0 ≤ x ∧ x ≤ 255) := Lib.hid (by intro x hx; rw [List.mem_singleton] at hx; omega)
  clear hY hJ hJx hW h h0 hr he hin hok h3 hk
  obtain ⟨P, hP⟩ : ∃ P, P = partsM kd row evs := ⟨_, rfl⟩
  have HP : Hid (P = [kd] :: bytesOf row.length 1 :: (row.map (fun z => bytesOf z 1) ++ evs.map EvD.bytes)) := Lib.hid hP
  rw [← hP] at HY ⊢
  clear hP
  generalize hn : row.length = n at *
  have HN := Lib.hid hn
  clear hn
  have n4 : (n : Int) ≤ 4 := by omega
  obtain ⟨m0, m1, m2, m3, m4⟩ := row5 hb
  refine callsIn_of_wp Try.func89 rfl trivial ?_
  simp only [Try.ntmps89, List.size_toArray, List.length_cons, List.length_nil, Nat.reduceAdd, Nat.reduceSub, Array.replicate_succ, Array.replicate_zero, List.push_toArray, List.append_toArray, List.nil_append, List.cons_append]
  obtain ⟨fn, tmps, assign, body, hy, hR⟩ := yield_part (cap := 1) HY.out HJ.out (pre := []) (bs := [kd]) (m := 1) HP.out.symm H0.out HW.out ((Ext.refl W).alloc _) (w2 := W.alloc (.cells #[.int .u8 kd] 5)) (row_new (w := W) (t := 5) [kd] hkb.out) rfl (by omega) (by omega)
  gi_wp2
  refine ⟨rfl, hR.mono ?_⟩
  rintro e W2 (⟨rfl, hJ2, hk2, hP2⟩ | ⟨rfl, hJx2⟩)
  rotate_left
  · gi_wp2
    refine bodyPost_ret (v := .tuple #[]) (by simp [results, go_sem]) rfl ⟨⟨_, rfl⟩, .inr ⟨_, trivial, hJx2⟩⟩
  have hb2 := hk2.same _ _ HB.out (.inl rfl)
  clear m0 m1 m2 m3 m4 hy hR hb
  obtain ⟨m0, m1, m2, m3, m4⟩ := row5 hb2
  have J2 := Lib.hid hJ2
  have K2 := Lib.hid hk2
  have P2 := Lib.hid hP2
  have K45 := Lib.hid (put_row n 1 (by omega) (by omega) W2)
  clear hJ2 hk2 hP2
  gi_wp2_with (refine ⟨trivial, rfl, (callsIn_wide.2 K45.out).mono ?_⟩; rintro e W3 ⟨g3, c3, rfl, hrow3, hE3⟩; obtain ⟨fn, tmps, assign, body, hy, hR⟩ := yield_part (cap := c3) (g := g3) HY.out HJ.out (bs := bytesOf n 1) (m := 1) P2.out J2.out K2.out hE3 hrow3 (bytesOf_len _ _) (by omega) (by omega))
  refine ⟨rfl, hR.mono ?_⟩
  rintro e W4 (⟨rfl, hJ4, hk4, hP4⟩ | ⟨rfl, hJx4⟩)
  rotate_left
  · gi_wp2
    refine bodyPost_ret (v := .tuple #[]) (by simp [results, go_sem]) rfl ⟨⟨_, rfl⟩, .inr ⟨_, trivial, hJx4⟩⟩
  have hb4 := hk4.same _ _ HB.out (.inl rfl)
  clear m0 m1 m2 m3 m4 hy hR hb2
  obtain ⟨m0, m1, m2, m3, m4⟩ := row5 hb4
  clear hrow3 hE3
  gi_wp2
  gi_loopw [44] (fun v W1 => ∃ (j : Nat) (pre : List BX), j ≤ n ∧ v = .int .i64 j ∧ J pre W1 ∧ Kept (ZK fun i => i = bo ∨ i = b ∨ i = b') w W1 ∧ pre.map BX.bs ++ ((row.drop j).map (fun z => bytesOf z 1) ++ evs.map EvD.bytes) = P) (fun v _ => n - (intOf v).toNat)
  case atStart => exact ⟨0, _, Nat.zero_le _, rfl, hJ4, hk4, hP4⟩
  case round =>
    obtain ⟨j, pre, hj, rfl, hJ5, hk5, hP5⟩ := hrel
    by_cases hlt : j < n
    · have hjr : j < row.length := by rw [HN.out]; exact hlt
      have hcell := hk5.cell (HR.out j hjr) (fun _ _ => .inr (.inl rfl))
      have hd : row.drop j = row.getD j 0 :: row.drop (j + 1) := by
        rw [List.drop_eq_getElem_cons hjr, List.getD_eq_getElem?_getD, List.getElem?_eq_getElem hjr]; rfl
      rw [hd, List.map_cons, List.cons_append] at hP5
      clear hd hjr
      generalize row.getD j 0 = z at *
      have J5 := Lib.hid hJ5
      have K5 := Lib.hid hk5
      have P5 := Lib.hid hP5
      have K45 := Lib.hid (put_row z 1 (by omega) (by omega) wr)
      clear hJ5 hk5 hP5 hJ4 hk4 hP4
      gi_wp2_with (refine ⟨trivial, rfl, (callsIn_wide.2 K45.out).mono ?_⟩; rintro e W3 ⟨g3, c3, rfl, hrow3, hE3⟩; obtain ⟨fn, tmps, assign, body, hy, hR⟩ := yield_part (cap := c3) (g := g3) HY.out HJ.out (bs := bytesOf z 1) (m := 1) P5.out J5.out K5.out hE3 hrow3 (bytesOf_len _ _) (by omega) (by omega))
      refine ⟨rfl, hR.mono ?_⟩
      rintro e W6 (⟨rfl, hJ6, hk6, hP6⟩ | ⟨rfl, hJx6⟩)
      · gi_wp2
        go_roundw
        case rel => exact ⟨j + 1, _, by omega, by go_num, hJ6, hk6, hP6⟩
        case measure => simp [intOf]; omega
      · gi_wp2
        refine bodyPost_ret (v := .tuple #[]) (by simp [results, go_sem]) rfl ⟨⟨_, rfl⟩, .inr ⟨_, trivial, hJx6⟩⟩
    · have hb5 := hk5.same _ _ HB.out (.inl rfl)
      have hdr : row.drop j = [] := List.drop_eq_nil_of_le (by rw [HN.out]; omega)
      rw [hdr, List.map_nil, List.nil_append] at hP5
      clear hdr m0 m1 m2 m3 m4 hb4
      obtain ⟨m0, m1, m2, m3, m4⟩ := row5 hb5
      gi_wp2
      gi_loopw [58] (fun v W1 => ∃ (j : Nat) (pre : List BX), j ≤ n ∧ v = .int .i64 j ∧ J pre W1 ∧ Kept (ZK fun i => i = bo ∨ i = b ∨ i = b') w W1 ∧ pre.map BX.bs ++ (evs.drop j).map EvD.bytes = P) (fun v _ => n - (intOf v).toNat)
      case atStart => exact ⟨0, _, Nat.zero_le _, rfl, hJ5, hk5, hP5⟩
      case round =>
        obtain ⟨j2, pre2, hj2, rfl, hJ7, hk7, hP7⟩ := hrel
        by_cases hlt2 : j2 < n
        · have hje : j2 < evs.length := by rw [H3.out]; exact hlt2
          obtain ⟨q0, q1, q2, q3, q4⟩ := HE.out j2 hje
          have c0 := hk7.cell q0 (fun _ _ => .inr (.inr rfl))
          have c1 := hk7.cell q1 (fun _ _ => .inr (.inr rfl))
          have c2 := hk7.cell q2 (fun _ _ => .inr (.inr rfl))
          have c3 := hk7.cell q3 (fun _ _ => .inr (.inr rfl))
          have c4 := hk7.cell q4 (fun _ _ => .inr (.inr rfl))
          have hget : evs.getD j2 EvD.zero = evs[j2] := by rw [List.getD_eq_getElem?_getD, List.getElem?_eq_getElem hje]; rfl
          have hd : evs.drop j2 = evs.getD j2 EvD.zero :: evs.drop (j2 + 1) := by
            rw [List.drop_eq_getElem_cons hje, hget]
          have hmem : evs.getD j2 EvD.zero ∈ evs := by rw [hget]; exact List.getElem_mem hje
          have hi2 := HI.out _ hmem
          have ho2 := List.all_eq_true.1 HO.out _ hmem
          rw [hd, List.map_cons] at hP7
          clear hd hget hmem hje q0 q1 q2 q3 q4
          generalize evs.getD j2 EvD.zero = ev at *
          have J7 := Lib.hid hJ7
          have K7 := Lib.hid hk7
          have P7 := Lib.hid hP7
          have K90 := Lib.hid (fun w => pof_any ev.ts ev.src ev.seq ev.ek (fb ev.x) (fb ev.y) w)
          have K16 := Lib.hid (fun w => put_event ev hi2 ho2 w)
          clear hJ7 hk7 hP7 hJ5 hk5 hP5 hJ4 hk4 hP4 hi2 ho2
          gi_wp2_with fail
          refine ⟨trivial, rfl, (callsIn_wide.2 (K90.out _)).mono ?_⟩
          rintro e W8 ⟨rfl, hE8⟩
          have T8 := Lib.hid (Ext.of1 hE8)
          clear hE8
          gi_wp2_with fail
          refine ⟨trivial, rfl, (callsIn_wide.2 (K16.out _)).mono ?_⟩
          rintro e W9 ⟨g9, cp9, rfl, hrow9, hE9⟩
          obtain ⟨fn, tmps, assign, body, hy, hR⟩ := yield_part (cap := cp9) (g := g9) HY.out HJ.out (bs := ev.bytes) (m := 20) P7.out J7.out K7.out (T8.out.trans hE9) hrow9 (EvD.bytes_len _) (by omega) (by omega)
          clear hE9 hrow9
          gi_wp2
          refine ⟨rfl, hR.mono ?_⟩
          rintro e W6 (⟨rfl, hJ6, hk6, hP6⟩ | ⟨rfl, hJx6⟩)
          · gi_wp2
            go_roundw
            case rel => exact ⟨j2 + 1, _, by omega, by go_num, hJ6, hk6, hP6⟩
            case measure => simp [intOf]; omega
          · gi_wp2
            refine bodyPost_ret (v := .tuple #[]) (by simp [results, go_sem]) rfl ⟨⟨_, rfl⟩, .inr ⟨_, trivial, hJx6⟩⟩
        · have hdr : evs.drop j2 = [] := List.drop_eq_nil_of_le (by rw [H3.out]; omega)
          rw [hdr, List.map_nil, List.append_nil] at hP7
          gi_wp2
          go_end0
          exact ⟨⟨_, rfl⟩, .inl ⟨_, hP7, hJ7⟩⟩

end Go.Proofs.Ytcbneobdelbhlaa
