/-
  Contract: slices.Reverse at ints, of a row of one's own.
-/
import Derived.Test.YtndeplakkhfmlaaDoorBibaLaw
import Derived.RegionTactic
import Derived.Test.YtndeplakkhfmlaaDoorBox
namespace Go.Proofs.YtndeplakkhfmlaaDoor
open Go.RowKit
set_option maxRecDepth 100000
set_option linter.unusedVariables false

/-- A list of which the first k and the last k have changed places. -/
def rk (xs : List Int) (k : Nat) : List Int := (List.range xs.length).map (fun t => if t < k ∨ xs.length - k ≤ t then gI xs (xs.length - 1 - t) else gI xs t)
section
variable {xs : List Int} {k : Nat}
theorem length_rk : (rk xs k).length = xs.length := by simp [rk]
theorem rk_at {t : Nat} (h : t < xs.length) : (rk xs k)[t]? = some (if t < k ∨ xs.length - k ≤ t then gI xs (xs.length - 1 - t) else gI xs t) := by
  unfold rk; rw [List.getElem?_map, List.getElem?_range h]; rfl
theorem rk_zero : rk xs 0 = xs := by
  refine List.ext_getElem? fun t => ?_
  rcases Nat.lt_or_ge t xs.length with h | h
  · rw [rk_at h, if_neg (by omega), get_gI h]
  · rw [List.getElem?_eq_none (by rw [length_rk]; exact h), List.getElem?_eq_none h]
theorem rk_step (hk : k < xs.length - 1 - k) : ((rk xs k).set k (gI xs (xs.length - 1 - k))).set (xs.length - 1 - k) (gI xs k) = rk xs (k + 1) := by
  refine List.ext_getElem? fun t => ?_
  rw [List.getElem?_set, List.getElem?_set, List.length_set, length_rk]
  rcases Nat.lt_or_ge t xs.length with h | h
  · rw [rk_at h, rk_at h]
    by_cases e1 : xs.length - 1 - k = t
    · rw [if_pos e1, if_pos (by omega), if_pos (by omega)]
      congr 2; omega
    · rw [if_neg e1]
      by_cases e2 : k = t
      · rw [if_pos e2, if_pos (by omega), if_pos (by omega)]
        congr 2; omega
      · rw [if_neg e2]
        by_cases e3 : t < k ∨ xs.length - k ≤ t
        · rw [if_pos e3, if_pos (by omega)]
        · rw [if_neg e3, if_neg (by omega)]
  · rw [if_neg (by omega), if_neg (by omega), List.getElem?_eq_none (by rw [length_rk]; exact h), List.getElem?_eq_none (by rw [length_rk]; exact h)]
theorem rk_done (hk : xs.length - 1 - k ≤ k) (h2 : 2 * k ≤ xs.length) : rk xs k = xs.reverse := by
  refine List.ext_getElem? fun t => ?_
  rcases Nat.lt_or_ge t xs.length with h | h
  · rw [rk_at h, List.getElem?_reverse h, get_gI (l := xs) (by omega)]
    split
    · rfl
    · congr 2; omega
  · rw [List.getElem?_eq_none (by rw [length_rk]; exact h), List.getElem?_eq_none (by simpa using h)]
end

set_option maxHeartbeats 1000000 in
theorem Reverse_any (xs : List Int) (g base c : Nat) (w : World) (h : OwnAt w g 3 (xs.map (Value.int .i64))) (hb : base ≤ g) (hn : xs.length < 2 ^ 40) :
    Calls Tryd.prog 53 #[.slice (some ⟨g, 0, none⟩) xs.length c] w fun e w' => e = .returned (.tuple #[]) ∧ OwnAt w' g 3 (xs.reverse.map (Value.int .i64)) ∧ Below base w w' := by
  go_enter Tryd.func53, Tryd.ntmps53
  go_wp2_with fail
  go_loopw [2, 3] (fun i j wr => ∃ k : Nat, 2 * k ≤ xs.length ∧ i = .int .i64 k ∧ j = .int .i64 ((xs.length : Int) - 1 - k) ∧ OwnAt wr g 3 ((rk xs k).map (Value.int .i64)) ∧ Below base w wr) (fun i _ _ => xs.length - (intOf i).toNat)
  case atStart => exact ⟨0, by omega, rfl, by go_num, by rw [rk_zero]; exact h, Below.refl _ _⟩
  case round =>
    obtain ⟨k, hk, rfl, rfl, hown, hbr⟩ := hrel
    by_cases hlt : k < xs.length - 1 - k
    · have hst := rk_step hlt
      obtain ⟨m, hm⟩ : ∃ m, m = xs.length - 1 - k := ⟨_, rfl⟩
      have hj : (xs.length : Int) - 1 - k = (m : Int) := by omega
      have hj2 : (xs.length : Int) - 1 - ((k + 1 : Nat) : Int) = (m : Int) - 1 := by omega
      have hc1 : wr.cell? ⟨g, k, none⟩ = some (.int .i64 (gI xs k)) := hown.cell (by rw [List.getElem?_map, rk_at (by omega), if_neg (by omega)]; rfl)
      have hc2 : wr.cell? ⟨g, m, none⟩ = some (.int .i64 (gI xs m)) := hown.cell (by rw [List.getElem?_map, rk_at (by omega), if_neg (by omega)]; rfl)
      have hf1 := hown.free k
      have hf2 := hown.free m
      have hgl := hown.lt
      have Hown := Lib.hid hown
      rw [← hm] at hst
      have Hst := Lib.hid hst
      have Hj2 := Lib.hid hj2
      have hl : (rk xs k).length = xs.length := length_rk
      have Hl := Lib.hid hl
      rw [hj]
      have hkm : k < m := by omega
      have hmn : m < xs.length := by omega
      clear hst hj hj2 hm hown h hl
      generalize rk xs k = r1 at *
      generalize gI xs k = x at *
      generalize gI xs m = y at *
      generalize xs.length = n at *
      have hne : m ≠ k := by omega
      go_wp2_with fail
      go_region
      go_wp2_with fail
      refine ⟨⟨k + 1, ?ya, ?yb, ?yc, ?ye, ?yf⟩, ?yd⟩
      case ya => omega
      case yb => go_num
      case yc => rw [Hj2.out]
      case ye =>
        rw [← Hst.out, List.map_set, List.map_set]
        exact ((Hown.out.set (by rw [List.length_map, Hl.out]; omega) _).set (by rw [List.length_set, List.length_map, Hl.out]; omega) _).drew
      case yf => exact ((hbr.setCell (p := ⟨g, k, none⟩) hb _).setCell (p := ⟨g, m, none⟩) hb _).drew
      case yd => simp [intOf]; omega
    · have hd := rk_done (xs := xs) (k := k) (by omega) hk
      rw [hd] at hown
      have Hown := Lib.hid hown
      have d1 : decide ((k : Int) < (xs.length : Int) - 1 - k) = false := by simp; omega
      clear hd hown h
      go_wp2_with fail
      go_end0
      exact ⟨rfl, Hown.out, hbr⟩
end Go.Proofs.YtndeplakkhfmlaaDoor
