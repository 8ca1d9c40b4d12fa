/-
  Package out: events in a row; slices.ContainsFunc of out.Right's own test.
-/
import Derived.Test.YtcbneobdelbhlaaOc
namespace Go.Proofs.Ytcbneobdelbhlaa
open Go.RowKit Go.Shelf

structure EvD where
  ts : Int
  src : Int
  seq : Int
  ek : Int
  x : Int
  y : Int

namespace EvD
def cells (e : EvD) : List Value := [.int .i64 e.ts, .int .i64 e.src, .int .i64 e.seq, .int .i64 e.ek, .complex .f64 (fb e.x) (fb e.y)]
def val (e : EvD) : Value := .agg #[.int .i64 e.ts, .int .i64 e.src, .int .i64 e.seq, .int .i64 e.ek, .complex .f64 (fb e.x) (fb e.y)]
def zero : EvD := ⟨0, 0, 0, 0, 0, 0⟩
def inside (e : EvD) : Prop := e.x.natAbs ≤ 1048576 ∧ e.y.natAbs ≤ 1048576
def ok (e : EvD) : Bool := evR e.ts e.src e.seq e.ek
end EvD

/-- A row of events in memory. -/
def EvRow (w : World) (b : Nat) (l : List EvD) : Prop := ∀ i, i < l.length →
  w.cell? ⟨b, i * 5, none⟩ = some (.int .i64 (l.getD i EvD.zero).ts) ∧ w.cell? ⟨b, i * 5 + 1, none⟩ = some (.int .i64 (l.getD i EvD.zero).src) ∧
  w.cell? ⟨b, i * 5 + 2, none⟩ = some (.int .i64 (l.getD i EvD.zero).seq) ∧ w.cell? ⟨b, i * 5 + 3, none⟩ = some (.int .i64 (l.getD i EvD.zero).ek) ∧
  w.cell? ⟨b, i * 5 + 4, none⟩ = some (.complex .f64 (fb (l.getD i EvD.zero).x) (fb (l.getD i EvD.zero).y))

theorem Ext.evrow {w w' : World} (h : Ext w w') {b : Nat} {l : List EvD} (hr : EvRow w b l) : EvRow w' b l := fun i hi => by
  obtain ⟨h0, h1, h2, h3, h4⟩ := hr i hi
  exact ⟨h.cell h0, h.cell h1, h.cell h2, h.cell h3, h.cell h4⟩
theorem Ext.introw {w w' : World} (h : Ext w w') {b : Nat} {l : List Int} (hr : IntRow w b l) : IntRow w' b l := fun i hi => h.cell (hr i hi)

theorem owrong_any (ts src seq ek x y : Int) (hx : x.natAbs ≤ 1048576) (hy : y.natAbs ≤ 1048576) (w : World) :
    Calls Try.prog 60 #[.agg #[.int .i64 ts, .int .i64 src, .int .i64 seq, .int .i64 ek, .complex .f64 (fb x) (fb y)]] w fun e w' => e = .returned (.bool (!evR ts src seq ek)) ∧ Ext w w' := by
  have H := Lib.hid (fun w => eventRight_Pt (ts := ts) (src := src) (seq := seq) (kind := ek) (Pt_fb hx hy) w)
  generalize evR ts src seq ek = B at *
  go_enter Try.func60, Try.ntmps60
  go_wp2_with (go_at_call 61; refine (H.out _).mono ?_; rintro e w1 ⟨rfl, hE⟩; have T := Lib.hid (Ext.of1 hE); clear hE)
  go_ret
  exact ⟨rfl, T.out⟩

set_option maxHeartbeats 1000000 in
theorem oindex_any (b cap : Nat) (l : List EvD) (hl : l.length ≤ 1000) (hin : ∀ e ∈ l, e.inside) (w : World) (h : EvRow w b l) :
    Calls Try.prog 87 #[.slice (some ⟨b, 0, none⟩) l.length cap, .func (.func 60) #[] #[]] w fun e w' => ∃ n : Int, e = .returned (.int .i64 n) ∧ decide (0 ≤ n) = !(l.all EvD.ok) ∧ Ext w w' := by
  have HH := Lib.hid (fun (w' : World) (hE : Ext w w') => hE.evrow h)
  have HI := Lib.hid hin
  generalize hlen : l.length = len at *
  have HL := Lib.hid hlen
  clear h hin hlen
  have p2 : (len : Int) ≤ 1000 := by omega
  go_enter Try.func87, Try.ntmps87
  go_wp2
  go_loopw [8] (fun v wr => ∃ j : Nat, j ≤ len ∧ v = .int .i64 j ∧ (l.take j).all EvD.ok = true ∧ Ext w wr) (fun v _ => len - (intOf v).toNat)
  case atStart => exact ⟨0, by omega, rfl, by simp, Ext.refl _⟩
  case round =>
    obtain ⟨j, hj, rfl, hall, hE⟩ := hrel
    by_cases hlt : j < len
    · have hjl : j < l.length := by rw [HL.out]; exact hlt
      obtain ⟨c0, c1, c2, c3, c4⟩ := HH.out _ hE j hjl
      have hget : l.getD j EvD.zero = l[j] := by rw [List.getD_eq_getElem?_getD, List.getElem?_eq_getElem hjl]; rfl
      obtain ⟨ix, iy⟩ := HI.out (l.getD j EvD.zero) (by rw [hget]; exact List.getElem_mem hjl)
      have hs : (l.take (j + 1)).all EvD.ok = (evR (l.getD j EvD.zero).ts (l.getD j EvD.zero).src (l.getD j EvD.zero).seq (l.getD j EvD.zero).ek) := by
        rw [List.take_succ_eq_append_getElem hjl, List.all_append, hall, hget]
        simp [EvD.ok]
      have hno : (evR (l.getD j EvD.zero).ts (l.getD j EvD.zero).src (l.getD j EvD.zero).seq (l.getD j EvD.zero).ek) = false → l.all EvD.ok = false := by
        intro h
        rw [hget] at h
        rw [List.all_eq_false]
        exact ⟨l[j], List.getElem_mem hjl, by simp [EvD.ok, h]⟩
      have HS := Lib.hid hs
      have HN := Lib.hid hno
      have HE := Lib.hid hE
      have HC := Lib.hid (owrong_any (l.getD j EvD.zero).ts (l.getD j EvD.zero).src (l.getD j EvD.zero).seq (l.getD j EvD.zero).ek (l.getD j EvD.zero).x (l.getD j EvD.zero).y ix iy)
      clear hs hno hE hget ix iy
      generalize (l.getD j EvD.zero).ts = ts at *
      generalize (l.getD j EvD.zero).src = src at *
      generalize (l.getD j EvD.zero).seq = seq at *
      generalize (l.getD j EvD.zero).ek = ek at *
      generalize (l.getD j EvD.zero).x = x at *
      generalize (l.getD j EvD.zero).y = y at *
      generalize evR ts src seq ek = B at *
      cases B
      all_goals
        go_wp2_with (go_at_call 60; refine (HC.out _).mono ?_; rintro e w1 ⟨rfl, hE1⟩; have T := Lib.hid (HE.out.trans hE1); clear hE1)
      · go_ret
        exact ⟨j, rfl, by rw [HN.out trivial]; simp, T.out⟩
      · go_round
        case rel => exact ⟨j + 1, by omega, by go_num, HS.out, T.out⟩
        case measure => simp [intOf]; omega
    · have HE := Lib.hid hE
      clear hE
      go_wp2
      go_ret
      have e : l.take j = l := List.take_of_length_le (by rw [HL.out]; omega)
      rw [e] at hall
      exact ⟨-1, rfl, by rw [hall]; rfl, HE.out⟩

theorem ocontains_any (b cap : Nat) (l : List EvD) (hl : l.length ≤ 1000) (hin : ∀ e ∈ l, e.inside) (w : World) (h : EvRow w b l) :
    Calls Try.prog 65 #[.slice (some ⟨b, 0, none⟩) l.length cap, .func (.func 60) #[] #[]] w fun e w' => e = .returned (.bool (!(l.all EvD.ok))) ∧ Ext w w' := by
  have H := Lib.hid (oindex_any b cap l hl hin w h)
  generalize l.all EvD.ok = B at *
  generalize l.length = len at *
  clear h hin hl
  go_enter Try.func65, Try.ntmps65
  go_wp2_with (go_at_call 87; refine (H.out).mono ?_; rintro e w1 ⟨n, rfl, hn, hE⟩; have T := Lib.hid hE; have hn' := Lib.hid hn; clear hE hn)
  go_ret
  exact ⟨ret_bool (by rw [← hn'.out]), T.out⟩

end Go.Proofs.Ytcbneobdelbhlaa
