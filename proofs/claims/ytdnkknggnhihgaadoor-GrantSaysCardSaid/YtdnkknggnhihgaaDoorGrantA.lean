/-
  Contracts: slices.IndexFunc and ContainsFunc at grants; grant.holds.
-/
import Derived.Test.YtdnkknggnhihgaaDoorGrantW
import Derived.Test.YtdnkknggnhihgaaDoorWithin
import Derived.Test.YtdnkknggnhihgaaDoorErr
import Derived.Test.YtdnkknggnhihgaaDoorOver
import Derived.Test.YtdnkknggnhihgaaDoorBox
import Derived.Shelf.Abstract
import Derived.RangeFuncOwn
namespace Go.Proofs.YtdnkknggnhihgaaDoor
open Go.RowKit
set_option maxRecDepth 100000
set_option linter.unusedVariables false

/-- The first of n that is so; -1: there is none. -/
def fIdx (ok : Nat → Bool) (n : Nat) : Int := match (List.range n).find? ok with | some i => (i : Int) | none => -1
theorem fIdx_none {ok : Nat → Bool} {n : Nat} (h : ∀ i, i < n → ok i = false) : fIdx ok n = -1 := by
  unfold fIdx
  rw [List.find?_eq_none.2 (fun x hx => by rw [h x (List.mem_range.1 hx)]; decide)]
theorem fIdx_at {ok : Nat → Bool} {n k : Nat} (hk : k < n) (h : ∀ i, i < k → ok i = false) (hok : ok k = true) : fIdx ok n = (k : Int) := by
  unfold fIdx
  have hf : (List.range n).find? ok = some k := by
    rw [List.find?_range_eq_some]
    exact ⟨hok, List.mem_range.2 hk, fun j hj => by rw [h j hj]; rfl⟩
  rw [hf]
theorem fIdx_ge {ok : Nat → Bool} {n : Nat} : decide (fIdx ok n ≥ 0) = (List.range n).any ok := by
  by_cases h : ∃ i, i < n ∧ ok i = true
  · obtain ⟨i, hi, hok⟩ := h
    have h1 : (List.range n).any ok = true := List.any_eq_true.2 ⟨i, List.mem_range.2 hi, hok⟩
    rw [h1]
    unfold fIdx
    cases hf : (List.range n).find? ok with
    | none => rw [List.find?_eq_none] at hf; exact absurd hok (hf i (List.mem_range.2 hi))
    | some j => simp
  · have h0 : ∀ i, i < n → ok i = false := fun i hi => by
      cases hk : ok i with
      | false => rfl
      | true => exact absurd ⟨i, hi, hk⟩ h
    rw [fIdx_none h0]
    symm
    rw [List.any_eq_false.2 (fun x hx => by rw [h0 x (List.mem_range.1 hx)]; decide)]
    decide

set_option maxHeartbeats 1000000 in
theorem IndexG_any (n : Nat) (G : List Int) (A : Option Addr) (c : Nat) (w : World) (h : IntsAt w A G) (hl : n * 3 ≤ G.length) (hn : n < 2 ^ 60) (ok : Nat → Bool) (fn : FuncId) (caps : Array Value) (hen : Enters Tryd.prog fn)
    (hw : ∀ V i, Below w.heap.size w V → i < n → Calls Tryd.prog fn (#[.agg #[.int .i64 (gFr G i), .int .i64 (gTo G i), .int .i64 (gTm G i)]] ++ caps) V fun e w' => e = .returned (.bool (ok i)) ∧ Below V.heap.size V w') :
    Calls Tryd.prog 67 #[.slice A n c, .func (.func fn) #[] caps] w fun e w' => e = .returned (.int .i64 (fIdx ok n)) ∧ Below w.heap.size w w' := by
  have hrc : ∀ (args : Array Value) (V : World), (callFunc fn args).run Tryd.prog V = .ok (.enter fn args) V := fun args V => hen args V
  have HW := Lib.hid hw
  clear hw
  go_enter Tryd.func67, Tryd.ntmps67
  go_wp2_with fail
  go_loopw [8] (fun i wr => ∃ k : Nat, k ≤ n ∧ i = .int .i64 k ∧ Hid (∀ j, j < k → ok j = false) ∧ Below w.heap.size w wr) (fun i _ => n - (intOf i).toNat)
  case atStart => exact ⟨0, Nat.zero_le _, rfl, fun j hj => by omega, Below.refl _ _⟩
  case round =>
    obtain ⟨k, hk, rfl, hno, hbr⟩ := hrel
    by_cases hlt : k < n
    · obtain ⟨b, off, rfl, hc⟩ := h (by intro e; simp [e] at hl; omega)
      have p0 : w.cell? ⟨b, off + k * 3, none⟩ = some (.int .i64 (gFr G k)) := hc (k * 3) _ (get_gI (by omega))
      have p1 : w.cell? ⟨b, off + k * 3 + 1, none⟩ = some (.int .i64 (gTo G k)) := hc (k * 3 + 1) _ (get_gI (by omega))
      have p2 : w.cell? ⟨b, off + k * 3 + 2, none⟩ = some (.int .i64 (gTm G k)) := hc (k * 3 + 2) _ (get_gI (by omega))
      have hbw : b < w.heap.size := block_lt p0
      have q0 := (hbr.cell (p := ⟨b, _, none⟩) hbw).trans p0
      have q1 := (hbr.cell (p := ⟨b, _, none⟩) hbw).trans p1
      have q2 := (hbr.cell (p := ⟨b, _, none⟩) hbw).trans p2
      clear p0 p1 p2 hc
      have HV := Lib.hid (fun V (hV : Below wr.heap.size wr V) => HW.out V k (hbr.trans (hV.mono hbr.size)) hlt)
      generalize gFr G k = x0 at *
      generalize gTo G k = x1 at *
      generalize gTm G k = x2 at *
      cases hok : ok k with
      | false =>
        rw [hok] at HV
        have Hn := Lib.hid (show ∀ j, j < k + 1 → ok j = false from fun j hj => by
          rcases Nat.lt_or_ge j k with h1 | h1
          · exact hno.out j h1
          · obtain rfl : j = k := by omega
            exact hok)
        clear hok hno
        go_wp2_with fail
        refine (HV.out _ (Below.refl _ _)).mono ?_
        rintro e w1 ⟨rfl, hb1⟩
        go_wp2_with fail
        refine ⟨⟨k + 1, ?xa, ?xb, Hn, hbr.trans (hb1.mono hbr.size)⟩, ?xd⟩
        case xa => omega
        case xb => go_num
        case xd => simp [intOf]; omega
      | true =>
        rw [hok] at HV
        have Hr := Lib.hid (fIdx_at hlt hno.out hok)
        clear hok hno
        go_wp2_with fail
        refine (HV.out _ (Below.refl _ _)).mono ?_
        rintro e w1 ⟨rfl, hb1⟩
        go_wp2_with fail
        go_ret
        exact ⟨ret_int Hr.out.symm, hbr.trans (hb1.mono hbr.size)⟩
    · obtain rfl : k = n := by omega
      have Hr := Lib.hid (fIdx_none hno.out)
      clear hno
      go_wp2_with fail
      go_ret
      exact ⟨ret_int Hr.out.symm, hbr⟩

theorem ContainsG_any (n : Nat) (G : List Int) (A : Option Addr) (c : Nat) (w : World) (h : IntsAt w A G) (hl : n * 3 ≤ G.length) (hn : n < 2 ^ 60) (ok : Nat → Bool) (fn : FuncId) (caps : Array Value) (hen : Enters Tryd.prog fn)
    (hw : ∀ V i, Below w.heap.size w V → i < n → Calls Tryd.prog fn (#[.agg #[.int .i64 (gFr G i), .int .i64 (gTo G i), .int .i64 (gTm G i)]] ++ caps) V fun e w' => e = .returned (.bool (ok i)) ∧ Below V.heap.size V w') :
    Calls Tryd.prog 89 #[.slice A n c, .func (.func fn) #[] caps] w fun e w' => e = .returned (.bool ((List.range n).any ok)) ∧ Below w.heap.size w w' := by
  have HI := Lib.hid (IndexG_any n G A c w h hl hn ok fn caps hen hw)
  have Hge := Lib.hid (fIdx_ge (ok := ok) (n := n))
  generalize fIdx ok n = r at *
  clear hw h
  go_enter Tryd.func89, Tryd.ntmps89
  go_wp2_with fail
  refine HI.out.mono ?_
  rintro e w1 ⟨rfl, hb1⟩
  go_wp2_with fail
  go_ret
  exact ⟨ret_bool Hge.out, hb1⟩

theorem holds1_any (f t m u : Int) {x : Nat} {w : World} (hx : w.cell? ⟨x, 0, none⟩ = some (.int .i64 u)) :
    Calls Tryd.prog 90 #[.agg #[.int .i64 f, .int .i64 t, .int .i64 m], .pointer (some ⟨x, 0, none⟩)] w fun e w' => e = .returned (.bool (t == u)) ∧ Below w.heap.size w w' := by
  have hlt := block_lt hx
  go_enter Tryd.func90, Tryd.ntmps90
  go_wp2_with fail
  go_ret
  exact ⟨rfl, (Below.refl _ _).alloc (Nat.le_refl _) _⟩

theorem holds_any (n : Nat) (G : List Int) (A : Option Addr) (c : Nat) (w : World) (h : IntsAt w A G) (hl : n * 3 ≤ G.length) (hn : n < 2 ^ 60) (u : Int) {r : Bool} (hr : gHeld G n u = r) :
    Calls Tryd.prog 66 #[.slice A n c, .int .i64 u] w fun e w' => e = .returned (.bool r) ∧ Below w.heap.size w w' := by
  by_cases h0 : u = 0
  · subst h0
    have Hr := Lib.hid (show r = true by rw [← hr]; rfl)
    clear hr
    go_enter Tryd.func66, Tryd.ntmps66
    go_wp2_with fail
    go_ret
    exact ⟨ret_bool Hr.out.symm, (Below.refl _ _).alloc (Nat.le_refl _) _⟩
  · have hb : Below w.heap.size w (w.alloc (.cells #[.int .i64 u] 3)) := (Below.refl _ _).alloc (Nat.le_refl _) _
    have hx := BoxN.new w 3 #[.int .i64 u]
    have HC := Lib.hid (ContainsG_any n G A c _ (h.below hb) hl hn (fun i => gTo G i == u) 90 #[.pointer (some ⟨w.heap.size, 0, none⟩)] (enters_of Tryd.func90 (by kernel_rfl) rfl)
      (fun V i hV hi => holds1_any _ _ _ _ ((hx.all hV).cell rfl)))
    have Hr := Lib.hid (show (List.range n).any (fun i => gTo G i == u) = r by
      rw [← hr]; unfold gHeld
      have : (u == 0) = false := by simpa using h0
      rw [this]; rfl)
    have d0 : (u == 0) = false := by simpa using h0
    clear hr hx h
    generalize (List.range n).any (fun i => gTo G i == u) = s at *
    go_enter Tryd.func66, Tryd.ntmps66
    go_wp2_with fail
    with_reducible refine HC.out.mono ?_
    rintro e w1 ⟨rfl, hb1⟩
    go_wp2_with fail
    go_ret
    exact ⟨ret_bool Hr.out, hb.trans (hb1.mono hb.size)⟩
end Go.Proofs.YtdnkknggnhihgaaDoor
