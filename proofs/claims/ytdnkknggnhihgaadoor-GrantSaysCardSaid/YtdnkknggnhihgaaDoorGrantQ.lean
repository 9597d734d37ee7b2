/-
  Contract: the reference's GrantPath.
-/
import Derived.Test.YtdnkknggnhihgaaDoorGrantPt
import Derived.Test.YtdnkknggnhihgaaDoorSets
import Derived.Deep.RegionLaw
namespace Go.Proofs.YtdnkknggnhihgaaDoor
open Go.RowKit
set_option maxRecDepth 100000
set_option linter.unusedVariables false

theorem OwnI.low {w : World} {base b0 : Nat} {v : Value} {xs : List Int} (h : OwnI w base v xs) (hb : b0 ≤ base) : OwnI w b0 v xs := by
  refine ⟨h.1, ?_⟩
  rcases h.2 with h0 | ⟨g, cap, cur, hv, hg, r⟩
  · exact .inl h0
  · exact .inr ⟨g, cap, cur, hv, Nat.le_trans hb hg, r⟩

set_option maxHeartbeats 2000000 in
theorem RGrantPath_no (n : Nat) (G : List Int) (u : Int) (A : Option Addr) (c : Nat) (w : World) (h : IntsAt w A G) (hl : n * 3 ≤ G.length) (hn : n < 2 ^ 47) (hh : gHeld G n u = false) :
    Calls Tryd.prog 36 #[.slice A n c, .int .i64 u] w fun e w' => e = .returned (.slice none 0 0) ∧ w = w' := by
  have hu0 : u ≠ 0 := by
    rintro rfl
    rw [gHeld_iff.2 (.inl rfl)] at hh; cases hh
  have Hno := Lib.hid (fun i (hi : i < n) => show (gTo G i == u) = false by
    cases e : (gTo G i == u) with
    | false => rfl
    | true => rw [gHeld_iff.2 (.inr ⟨i, hi, beq_iff_eq.1 e⟩)] at hh; cases hh)
  have du : (u == 0) = false := by simpa using hu0
  clear hh hu0
  go_enter Tryd.func36, Tryd.ntmps36
  go_wp2_with fail
  go_loop [5] (fun i => ∃ k : Nat, k ≤ n ∧ i = .int .i64 k) (fun i => n - (intOf i).toNat)
  case atStart => exact ⟨0, Nat.zero_le _, rfl⟩
  case round =>
    obtain ⟨k, hk, rfl⟩ := hrel
    by_cases hlt : k < n
    · obtain ⟨b, off, rfl, hbw, q0, q1, q2⟩ := grant_at h hl hlt (Below.refl _ _)
      have d1 := Hno.out k hlt
      clear q0 q2
      generalize gTo G k = x1 at *
      go_wp2_with fail
      refine ⟨⟨k + 1, ?ya, ?yb⟩, ?yd⟩
      case ya => omega
      case yb => go_num
      case yd => simp [intOf]; omega
    · obtain rfl : k = n := by omega
      go_wp2_with fail
      go_ret
      exact ⟨rfl, rfl⟩

set_option maxHeartbeats 4000000 in
theorem RGrantPath_yes {users : Int} {N : Nat} {G : List Int} {A : Option Addr} {c : Nat} (hz : gCode users G N = 0) (hl : N * 3 ≤ G.length) (hn : N < 2 ^ 47) (hcap : N ≤ c) : ∀ n, n ≤ N → ∀ (u : Int) (w : World), IntsAt w A G → gHeld G n u = true →
    Calls Tryd.prog 36 #[.slice A n c, .int .i64 u] w fun e w' => (∃ v p, e = .returned v ∧ OwnI w' w.heap.size v p ∧ GWay G n u p) ∧ Below w.heap.size w w' := by
  intro n
  induction n using Nat.strongRecOn with
  | ind n ih =>
    intro hnN u w h hh
    by_cases hu : u = 0
    · subst hu
      have Ho := OwnI.one w w.heap.size 0 (Nat.le_refl _)
      have HW := Lib.hid (GWay.zero (G := G) n)
      clear ih hh
      go_enter Tryd.func36, Tryd.ntmps36
      go_wp2_with fail
      go_ret
      exact ⟨⟨_, [0], rfl, Ho, HW.out⟩, (Below.refl _ _).alloc (Nat.le_refl _) _⟩
    · have du : (u == 0) = false := by simpa using hu
      have hall := (gCode_ok hz).2.2
      have h40 := (gCode_ok hz).2.1
      have IH := Lib.hid (fun k (hk : k < n) V (hV : Below w.heap.size w V) => (ih k hk (by omega) (gFr G k) V (h.below hV) ((gBad_zero.1 (hall k (by omega))).2.2)).mono fun e w' ⟨⟨v, p, he, ho, hw⟩, hb⟩ => (⟨⟨v, p, he, ho.low hV.size, hw⟩, hb, hV.trans (hb.mono hV.size)⟩ : (∃ v p, e = Ending.returned v ∧ OwnI w' w.heap.size v p ∧ GWay G k (gFr G k) p) ∧ Below V.heap.size V w' ∧ Below w.heap.size w w'))
      have Hh := Lib.hid (show ∃ i, i < n ∧ gTo G i = u by
        rcases gHeld_iff.1 hh with e | e
        · exact absurd e hu
        · exact e)
      have Hu := Lib.hid hu
      clear ih hh hall hu
      go_enter Tryd.func36, Tryd.ntmps36
      go_wp2_with fail
      go_loop [5] (fun i => ∃ k : Nat, k ≤ n ∧ i = .int .i64 k ∧ Hid (∀ j, j < k → gTo G j ≠ u)) (fun i => n - (intOf i).toNat)
      case atStart => exact ⟨0, Nat.zero_le _, rfl, fun j hj => by omega⟩
      case round =>
        obtain ⟨k, hk, rfl, hno⟩ := hrel
        by_cases hlt : k < n
        · obtain ⟨b, off, rfl, hbw, q0, q1, q2⟩ := grant_at h (show n * 3 ≤ G.length by omega) hlt (Below.refl _ _)
          by_cases hku : gTo G k = u
          · have HI := Lib.hid (fun V hV => IH.out k hlt V hV)
            have HW := Lib.hid (fun p hp => GWay.step (n := n) (p := p) Hu.out hlt hku hno.out hp)
            have HLn := Lib.hid (fun p (hp : GWay G k (gFr G k) p) => show p.length < 2 ^ 40 by have := hp.len; omega)
            rw [hku] at q1
            have hkc : k ≤ c := by omega
            have hkn : (k : Int) < n := by omega
            clear IH hno q2 Hh Hu hku
            generalize gFr G k = x0 at *
            go_wp2_with fail
            go_region_law ((first | (go_simp; go_at_call 36; with_reducible refine (HI.out _ (by repeat (first | exact Below.refl _ _ | refine Below.drew ?_ | refine Below.alloc ?_ (Nat.le_refl _) _))).mono ?_; rintro e w1 ⟨⟨v, p, rfl, ho, hw⟩, hbV, hbw1⟩) | (refine step_push_int (by rfl) _ _ (by rfl) (by rfl) (ho.next (w' := _) ((Below.refl _ _).alloc (Nat.le_refl _) _)) w1.heap.size u (by rfl) (cell_of_row _ _ 0 _ _ _ (heap_alloc_new w1 _)) (HLn.out p hw) (by have := hbw1.size; simp; omega) ?_; intro B' cc w' hown' hi' hbl; have hbf := hbl w (hbw1.alloc hbw1.size _)) | (refine step_push_int (by rfl) _ _ (by rfl) (by rfl) ho w.heap.size u (by rfl) ((hbV.cell (p := ⟨w.heap.size, 0, none⟩) (by simp)).trans (cell_of_row _ _ 0 _ _ _ (heap_alloc_new _ _))) (HLn.out p hw) hbw1.size ?_; intro B' cc w' hown' hi' hbl; have hbf := hbl w hbw1)))
            all_goals
              go_wp2_with fail
              go_ret
              have hlp : (p ++ [u]).length = p.length + 1 := by simp
              exact ⟨⟨.slice B' (p.length + 1) cc, p ++ [u], rfl, hown', HW.out p hw⟩, hbf⟩
          · have d1 : (gTo G k == u) = false := by simpa using hku
            have Hno := Lib.hid (show ∀ j, j < k + 1 → gTo G j ≠ u from fun j hj => by
              rcases Nat.lt_or_ge j k with h1 | h1
              · exact hno.out j h1
              · obtain rfl : j = k := by omega
                exact hku)
            clear IH hno q0 q2 Hh Hu hku
            generalize gTo G k = x1 at *
            go_wp2_with fail
            refine ⟨⟨k + 1, ?ya, ?yb, Hno⟩, ?yd⟩
            case ya => omega
            case yb => go_num
            case yd => simp [intOf]; omega
        · exfalso
          obtain ⟨i, hi, e⟩ := Hh.out
          exact hno.out i (by omega) e
end Go.Proofs.YtdnkknggnhihgaaDoor
