/-
  The reference's table of what matters; contracts: quietwingref2.Table, Ahead (over its find).
-/
import Derived.Test.YtdgncngkalgknaaDoorSlWk
import Derived.Test.YtdgncngkalgknaaDoorRNames
import Derived.Test.YtdgncngkalgknaaDoorSetsN
namespace Go.Proofs.YtdgncngkalgknaaDoor
open Go.RowKit Go.Maps
set_option maxRecDepth 100000
set_option linter.unusedVariables false
/-- A row of numbers in a block of its own. -/
abbrev RowB (w : World) (b : Nat) (l : List Int) : Prop := BoxN w b 3 (l.map (.int .i64)).toArray
theorem RowB.at_ {w : World} {b : Nat} {l : List Int} (h : RowB w b l) {k : Nat} {x : Int} (hx : l[k]? = some x) : w.cell? ⟨b, k, none⟩ = some (.int .i64 x) := BoxN.cell h (by simp [hx])
theorem RowB.put {w : World} {b : Nat} {l : List Int} (h : RowB w b l) (k : Nat) (x : Int) : RowB (w.setCell ⟨b, k, none⟩ (.int .i64 x)) b (l.set k x) := by
  have := BoxN.set h k (.int .i64 x)
  rwa [show ((l.map (Value.int .i64)).toArray.setIfInBounds k (.int .i64 x)) = ((l.set k x).map (Value.int .i64)).toArray by simp [List.map_set]] at this
/-- What the table holds of an answer. -/
def tcode (r : Nat × Bool) : Int := if r.2 then (r.1 : Int) + 64 else r.1
/-- What is in the table is right. -/
structure TabAt (P : List Int) (n0 B tb : Nat) (T : List Int) (w : World) : Prop where
  row : RowB w tb T
  low : B ≤ tb
  len : T.length = 64 * n0
  ok : ∀ i u x, i < n0 → u < 64 → T[64 * i + u]? = some x → x = -1 ∨ ∀ s, IsSt P i s → x = tcode (s.need u)
section
variable {P : List Int} {n0 B tb : Nat} {T : List Int} {w w' : World}
theorem TabAt.keep (h : TabAt P n0 B tb T w) (hb : w'.heap[tb]? = w.heap[tb]?) : TabAt P n0 B tb T w' := ⟨hb.trans h.row, h.low, h.len, h.ok⟩
theorem TabAt.below (h : TabAt P n0 B tb T w) (hb : Below w.heap.size w w') : TabAt P n0 B tb T w' := h.keep (hb.block tb h.row.lt)
theorem TabAt.get (h : TabAt P n0 B tb T w) {i u : Nat} (hi : i < n0) (hu : u < 64) : ∃ x, T[64 * i + u]? = some x := by
  have := h.len
  exact ⟨_, List.getElem?_eq_getElem (by omega)⟩
theorem TabAt.put (h : TabAt P n0 B tb T w) {i u : Nat} {s : St} (hi : i < n0) (hu : u < 64) (hs : IsSt P i s) : TabAt P n0 B tb (T.set (64 * i + u) (tcode (s.need u))) (w.setCell ⟨tb, 64 * i + u, none⟩ (.int .i64 (tcode (s.need u)))) :=
  ⟨RowB.put h.row _ _, h.low, by rw [List.length_set]; exact h.len, fun j v x hj hv hx => by
    by_cases e : 64 * j + v = 64 * i + u
    · obtain rfl : j = i := by omega
      obtain rfl : v = u := by omega
      have hl := h.len
      rw [List.getElem?_set_self (by omega)] at hx
      injection hx with hx
      exact .inr fun t ht => by rw [← hx, ht.one hs]
    · rw [List.getElem?_set_ne (by omega)] at hx
      exact h.ok j v x hj hv hx⟩
/-- What a function leaves. -/
def TabTo (P : List Int) (n0 B tb : Nat) (w w' : World) : Prop := ∃ T', TabAt P n0 B tb T' w' ∧ QKeeps (fun b => b = tb) w w'
theorem TabTo.below (h : TabTo P n0 B tb w w') {w0 : World} (hB : B ≤ tb) (hb : Below B w0 w) (hw : B ≤ w.heap.size) : Below B w0 w' := by
  obtain ⟨T', _, hq⟩ := h
  exact hq.to_below (fun b hb => by subst hb; exact hB) hb hw
end
def RAheadOk (P : List Int) (A0 : Option Addr) (n0 c0 B tb ct : Nat) (w0 : World) (i : Nat) (s : St) : Prop := ∀ (w : World) (T : List Int) (u : Nat), TabAt P n0 B tb T w → Below B w0 w → u < 64 →
  Calls Tryd.prog 20 #[.slice A0 n0 c0, .slice (some ⟨tb, 0, none⟩) (64 * n0) ct, .int .i64 i, .int .i64 u] w fun e w' => e = .returned (.tuple #[.int .i64 ((s.need u).1 : Nat), .bool (s.need u).2]) ∧ TabTo P n0 B tb w w'
def RFindOk (P : List Int) (A0 : Option Addr) (n0 c0 B tb ct : Nat) (w0 : World) (i : Nat) (s : St) : Prop := ∀ (w : World) (T : List Int) (u : Nat), TabAt P n0 B tb T w → Below B w0 w → u < 64 →
  Calls Tryd.prog 51 #[.slice A0 n0 c0, .slice (some ⟨tb, 0, none⟩) (64 * n0) ct, .int .i64 i, .int .i64 u] w fun e w' => e = .returned (.tuple #[.int .i64 ((s.need u).1 : Nat), .bool (s.need u).2]) ∧ TabTo P n0 B tb w w'
section
variable {P : List Int} {A0 : Option Addr} {n0 c0 B tb ct : Nat} {w0 : World} {i : Nat} {s : St}
set_option maxHeartbeats 4000000 in
theorem ahead_known {w : World} {T : List Int} {u : Nat} (hi : i < n0) (h80 : n0 ≤ 80) (h : TabAt P n0 B tb T w) (hu : u < 64) (hn : (s.need u).1 < 64) (hx : T[64 * i + u]? = some (tcode (s.need u))) :
    Calls Tryd.prog 20 #[.slice A0 n0 c0, .slice (some ⟨tb, 0, none⟩) (64 * n0) ct, .int .i64 i, .int .i64 u] w fun e w' => e = .returned (.tuple #[.int .i64 ((s.need u).1 : Nat), .bool (s.need u).2]) ∧ TabTo P n0 B tb w w' := by
  have y0 := h.row.at_ hx
  have H := Lib.hid (show TabTo P n0 B tb w w from ⟨T, h, QKeeps.refl _ _⟩)
  unfold tcode at y0
  generalize (s.need u).1 = v at *
  generalize (s.need u).2 = f at *
  have hi2 : (i : Int) < 80 := by omega
  have hn0 : (n0 : Int) ≤ 80 := by omega
  have hu2 : (u : Int) < 64 := by omega
  have hv2 : (v : Int) < 64 := by omega
  have hix : (64 : Int) * i + u < 64 * n0 := by omega
  clear h hx
  cases f with
  | true =>
    have y0 : w.cell? ⟨tb, 64 * i + u, none⟩ = some (.int .i64 ((v : Int) + 64)) := y0
    have d1 : decide ((v : Int) + 64 < 0) = false := by simp; omega
    have d2 : decide ((v : Int) + 64 ≥ 64) = true := decide_eq_true (by omega)
    go_enter Tryd.func20, Tryd.ntmps20
    go_wp2_with fail
    go_ret2
    exact ⟨rfl, H.out⟩
  | false =>
    have y0 : w.cell? ⟨tb, 64 * i + u, none⟩ = some (.int .i64 (v : Int)) := y0
    have d1 : decide ((v : Int) < 0) = false := by simp
    have d2 : decide ((v : Int) ≥ 64) = false := by simp; omega
    go_enter Tryd.func20, Tryd.ntmps20
    go_wp2_with fail
    go_ret2
    exact ⟨rfl, H.out⟩
set_option maxHeartbeats 4000000 in
theorem ahead_new {w : World} {T : List Int} {u : Nat} (hi : i < n0) (h80 : n0 ≤ 80) (hs : IsSt P i s) (h : TabAt P n0 B tb T w) (hw : Below B w0 w) (hu : u < 64) (hn : (s.need u).1 < 64) (hx : T[64 * i + u]? = some (-1)) (hf : RFindOk P A0 n0 c0 B tb ct w0 i s) :
    Calls Tryd.prog 20 #[.slice A0 n0 c0, .slice (some ⟨tb, 0, none⟩) (64 * n0) ct, .int .i64 i, .int .i64 u] w fun e w' => e = .returned (.tuple #[.int .i64 ((s.need u).1 : Nat), .bool (s.need u).2]) ∧ TabTo P n0 B tb w w' := by
  have y0 := h.row.at_ hx
  have C1 := Lib.hid (hf w T u h hw hu)
  have HP := Lib.hid (fun (T' : List Int) (V : World) (hV : TabAt P n0 B tb T' V) => hV.put hi hu hs)
  have HG := Lib.hid (fun (T' : List Int) (V : World) (hV : TabAt P n0 B tb T' V) => hV.get hi hu)
  unfold tcode at HP
  generalize (s.need u).1 = v at *
  generalize (s.need u).2 = f at *
  have hi2 : (i : Int) < 80 := by omega
  have hn0 : (n0 : Int) ≤ 80 := by omega
  have hu2 : (u : Int) < 64 := by omega
  have hv2 : (v : Int) < 64 := by omega
  have hix : (64 : Int) * i + u < 64 * n0 := by omega
  clear h hx hf hw
  cases f with
  | true =>
    have HPt : Hid (∀ (T' : List Int) (V : World), TabAt P n0 B tb T' V → TabAt P n0 B tb (T'.set (64 * i + u) ((v : Int) + 64)) (V.setCell ⟨tb, 64 * i + u, none⟩ (.int .i64 ((v : Int) + 64)))) := HP
    clear HP
    have d1 : decide ((v : Int) + 64 < 0) = false := by simp; omega
    have d2 : decide ((v : Int) + 64 ≥ 64) = true := decide_eq_true (by omega)
    go_enter Tryd.func20, Tryd.ntmps20
    go_wp2_with fail
    refine C1.out.mono ?_
    rintro e w1 ⟨rfl, T1, h1, hq1⟩
    obtain ⟨x1, hx1⟩ := HG.out T1 w1 h1
    have y1 := h1.row.at_ hx1
    have f1 := BoxN.free h1.row (64 * i + u)
    have h2 := HPt.out T1 w1 h1
    have y2 := h2.row.at_ (k := 64 * i + u) (x := (v : Int) + 64) (by rw [List.getElem?_set_self (by have := (List.getElem?_eq_some_iff.1 hx1).1; omega)])
    have HT := Lib.hid (show TabTo P n0 B tb w _ from ⟨_, h2, hq1.setCell (p := ⟨tb, 64 * i + u, none⟩) rfl _⟩)
    clear h1 hq1 hx1 h2 C1 HPt HG
    go_wp2_with fail
    go_ret2
    exact ⟨rfl, HT.out⟩
  | false =>
    have HPt : Hid (∀ (T' : List Int) (V : World), TabAt P n0 B tb T' V → TabAt P n0 B tb (T'.set (64 * i + u) (v : Int)) (V.setCell ⟨tb, 64 * i + u, none⟩ (.int .i64 (v : Int)))) := HP
    clear HP
    have d1 : decide ((v : Int) < 0) = false := by simp
    have d2 : decide ((v : Int) ≥ 64) = false := by simp; omega
    go_enter Tryd.func20, Tryd.ntmps20
    go_wp2_with fail
    refine C1.out.mono ?_
    rintro e w1 ⟨rfl, T1, h1, hq1⟩
    obtain ⟨x1, hx1⟩ := HG.out T1 w1 h1
    have y1 := h1.row.at_ hx1
    have f1 := BoxN.free h1.row (64 * i + u)
    have h2 := HPt.out T1 w1 h1
    have y2 := h2.row.at_ (k := 64 * i + u) (x := (v : Int)) (by rw [List.getElem?_set_self (by have := (List.getElem?_eq_some_iff.1 hx1).1; omega)])
    have HT := Lib.hid (show TabTo P n0 B tb w _ from ⟨_, h2, hq1.setCell (p := ⟨tb, 64 * i + u, none⟩) rfl _⟩)
    clear h1 hq1 hx1 h2 C1 HPt HG
    go_wp2_with fail
    go_ret2
    exact ⟨rfl, HT.out⟩
theorem rahead_of (hi : i < n0) (h80 : n0 ≤ 80) (hs : IsSt P i s) (hf : RFindOk P A0 n0 c0 B tb ct w0 i s) : RAheadOk P A0 n0 c0 B tb ct w0 i s := by
  intro w T u h hw hu
  have hn := need_lt hs.ok hu
  obtain ⟨x, hx⟩ := h.get hi hu
  rcases h.ok i u x hi hu hx with rfl | hk
  · exact ahead_new hi h80 hs h hw hu hn hx hf
  · rw [hk s hs] at hx
    exact ahead_known hi h80 h hu hn hx
end
end Go.Proofs.YtdgncngkalgknaaDoor
