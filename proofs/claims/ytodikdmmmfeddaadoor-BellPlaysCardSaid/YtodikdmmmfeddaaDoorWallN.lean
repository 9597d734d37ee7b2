/-
  Contract: wall.New.
-/
import Derived.Test.YtodikdmmmfeddaaDoorWallM
import Derived.Test.YtodikdmmmfeddaaDoorBibaN
import Derived.Test.YtodikdmmmfeddaaDoorBibaA
import Derived.Test.YtodikdmmmfeddaaDoorPush
import Derived.Test.YtodikdmmmfeddaaDoorDiff
import Derived.Deep.RegionHeld3
import Derived.Deep.CutRange
import Derived.Deep.RegionLaw
namespace Go.Proofs.YtodikdmmmfeddaaDoor
open Go.RowKit
set_option maxRecDepth 100000
set_option linter.unusedVariables false

theorem wrap_pow (k : Nat) (h : k < 62) : IntKind.i64.wrap (2 ^ k) = ((2 ^ k : Nat) : Int) := by
  have h0 := two_pow_lt k h
  have h1 : (0 : Int) < 2 ^ k := Int.pow_pos (by decide)
  rw [IntKind.wrap_i64]; push_cast; omega

/-- What is wrong with what a wall is made of. -/
def wCode (m : Int) (T : List Int) : Nat := if 0 ≤ m ∧ m ≤ 8 then levCode T 8 else 1
theorem own_zeros (w : World) (m : Nat) : OwnAt (w.alloc (.cells (madeCells #[Value.int .i64 0] m) 3)) w.heap.size 3 (vI (castL (List.replicate m 0))) := by
  refine ⟨_, heap_alloc_new w _, ?_, ?_⟩
  · simp [castL, vI, ← Array.length_toList, toList_madeCells_one]
  · intro j v hj
    rw [← Array.getElem?_toList, toList_madeCells_one]
    simpa [castL, vI] using hj

/-- The rows that the second loop leaves alone. -/
def WRest (W0 B : Nat) (T : List Int) (At : Option Addr) (gs m : Nat) (V : World) : Prop :=
  (T ≠ [] → ∃ gt, At = some ⟨gt, 0, none⟩ ∧ W0 ≤ gt ∧ gt < B ∧ OwnAt V gt 3 (vI T) ∧ gt ≠ gs) ∧ gs < B ∧ OwnAt V gs 3 (vI (castL (List.replicate m 0)))
section
variable {W0 B : Nat} {T : List Int} {At : Option Addr} {gs m : Nat} {V V' : World}
theorem WRest.below (h : WRest W0 B T At gs m V) (hb : Below B V V') : WRest W0 B T At gs m V' :=
  ⟨fun hne => by
    obtain ⟨gt, e, h1, h2, h3, h4⟩ := h.1 hne
    exact ⟨gt, e, h1, h2, h3.below hb h2, h4⟩, h.2.1, h.2.2.below hb h.2.1⟩
theorem WRest.set {p i : Nat} {vs : Array Value} (h : WRest W0 B T At gs m V) (hx : BoxN V p 75 vs) (v : Value) : WRest W0 B T At gs m (V.setCell ⟨p, i, none⟩ v) :=
  ⟨fun hne => by
    obtain ⟨gt, e, h1, h2, h3, h4⟩ := h.1 hne
    exact ⟨gt, e, h1, h2, h3.far (a := ⟨p, i, none⟩) (h3.ne_box hx int_ne_wall) _, h4⟩, h.2.1, h.2.2.far (a := ⟨p, i, none⟩) (h.2.2.ne_box hx int_ne_wall) _⟩
theorem OwnI.setOut {w : World} {base : Nat} {v : Value} {xs : List Int} (h : OwnI w base v xs) {a : Addr} (ha : a.block < base) (u : Value) : OwnI (w.setCell a u) base v xs := by
  refine ⟨h.1, ?_⟩
  rcases h.2 with h0 | ⟨g, cap, cur, hv, hb, hc, r⟩
  · exact .inl h0
  · exact .inr ⟨g, cap, cur, hv, hb, (Below.heap_setCell w a u g (by omega)).trans hc, r⟩
end

set_option maxHeartbeats 2000000 in
theorem WNew_ok (m : Nat) (hm : m ≤ 8) (T : List Int) (A : Option Addr) (c : Nat) (w : World) (hT : IntsAt w A T) (h : levCode T 8 = 0) :
    Calls Tryd.prog 23 #[.int .i64 m, .slice A T.length c] w fun e w' => (∃ p At As Ah ct cs ch, e = .returned (.tuple #[.pointer (some ⟨p, 0, none⟩), .nilIface]) ∧ WallAt w' w.heap.size p T (wStart m T) At As Ah ct cs ch) ∧ Below w.heap.size w w' := by
  obtain ⟨h8, hlv⟩ := levCode_ok h
  have C1 := Lib.hid (fun V => Within3_is (m : Int) 0 8 true V (by simp; omega))
  have hmk : ∀ V : World, (Instr.makeSlice 22 (.int .i64 m) (.int .i64 m)).run Tryd.prog V = .ok (.slice (some ⟨V.heap.size, 0, none⟩) m m) (V.alloc (.cells (madeCells #[Value.int .i64 0] m) 3)) := fun V => by
    obtain ⟨ti, hi, hz0, hz1, hz2⟩ := info_parts intInfo
    have := run_make (P := Tryd.prog) (w := V) 22 3 ti _ Tryd.underlying22 hi hz0 .i64 .i64 m m (by omega) (Int.le_refl _) (by rw [hz2]; omega) (by omega)
    rw [hz1, Int.toNat_natCast, Nat.mul_one] at this
    exact this
  have K1 := Lib.hid (fun V (hV : Below w.heap.size w V) => (Clone_any T A c V (hT.below hV) (by omega)).mono fun e w' ⟨he, hb⟩ => (⟨he, hb, hV.trans (hb.mono hV.size)⟩ : _ ∧ Below V.heap.size V w' ∧ Below w.heap.size w w'))
  have Hl := Lib.hid hlv
  clear h hlv
  generalize hn : T.length = n at *
  have Hn := Lib.hid hn
  clear hn
  go_enter Tryd.func23, Tryd.ntmps23
  go_wp2_with (go_at_call 41; with_reducible refine (C1.out _).mono ?_; rintro e w' ⟨rfl, rfl⟩)
  go_loop [20] (fun i => ∃ k : Nat, k ≤ n ∧ i = .int .i64 k) (fun i => n - (intOf i).toNat)
  case atStart => exact ⟨0, Nat.zero_le _, rfl⟩
  case round =>
    obtain ⟨k, hk, rfl⟩ := hrel
    by_cases hlt : k < n
    · obtain ⟨b, off, x, rfl, hx, hc⟩ := hT.at_ (k := k) (by have := Hn.out; omega)
      have Hb := Lib.hid (fun V => Within3_is x 0 7 true V (decide_eq_true (Hl.out x (List.mem_of_getElem? hx.out))))
      clear K1 hmk
      go_wp2_with (go_at_call 41; with_reducible refine (Hb.out _).mono ?_; rintro e w' ⟨rfl, rfl⟩)
      refine ⟨⟨k + 1, ?xa, ?xb⟩, ?xd⟩
      case xa => omega
      case xb => go_num
      case xd => simp [intOf]; omega
    · obtain rfl : k = n := by omega
      go_wp2_with fail
      have hbA : Below w.heap.size w w.drew := (Below.refl _ _).drew
      have hbB : Below w.heap.size w ((w.alloc (.cells (madeCells #[Value.int .i64 0] m) 3)).drew) := ((Below.refl _ _).alloc (Nat.le_refl _) _).drew
      go_cut [8] from 29 to 35 (fun x8 wx => ∃ p At ct gs, x8 = .pointer (some ⟨p, 0, none⟩) ∧ w.heap.size ≤ p ∧ BoxN wx p 75 #[.slice At k ct, .slice (some ⟨gs, 0, none⟩) m m, .slice none 0 0] ∧ IntsAt wx At T ∧ (T ≠ [] → ∃ gt, At = some ⟨gt, 0, none⟩ ∧ w.heap.size ≤ gt ∧ OwnAt wx gt 3 (vI T) ∧ gt ≠ gs) ∧ w.heap.size ≤ gs ∧ OwnAt wx gs 3 (vI (castL (List.replicate m 0))) ∧ Below w.heap.size w wx)
      case first =>
        go_region_held3 (fun V => True) (trivial) ((go_at_call 40; with_reducible refine (K1.out _ (by first | exact hbA | exact hbB)).mono ?_; rintro e w1 ⟨⟨At, ct, rfl, it, ot⟩, hb1, hbw1⟩))
        all_goals (go_wp2_with fail; go_meet)
        · have hs := hbw1.size
          have hbz : Below w1.heap.size w1 ((w1.alloc (.cells (madeCells #[Value.int .i64 0] m) 3)).alloc (.cells #[.slice At k ct, .slice (some ⟨w1.heap.size, 0, none⟩) m m, .slice none 0 0] 75)) := ((Below.refl _ _).alloc (Nat.le_refl _) _).alloc (by simp) _
          have hbx := BoxN.new (w1.alloc (.cells (madeCells #[Value.int .i64 0] m) 3)) 75 #[.slice At k ct, .slice (some ⟨w1.heap.size, 0, none⟩) m m, .slice none 0 0]
          simp only [World.size_alloc] at hbx
          exact ⟨_, At, ct, w1.heap.size, rfl, by omega, hbx, it.below hbz, fun hne => by
            obtain ⟨gt, e, hg, og⟩ := ot hne
            have := og.lt
            exact ⟨gt, e, hg, og.all hbz, by omega⟩, hs, OwnAt.all (own_zeros w1 m) ((Below.refl _ _).alloc (Nat.le_refl _) _), hbw1.trans (hbz.mono hs)⟩
        · have hs := hb1.size
          simp at hs
          have hbz : Below w1.heap.size w1 (w1.alloc (.cells #[.slice At k ct, .slice (some ⟨w.heap.size, 0, none⟩) m m, .slice none 0 0] 75)) := (Below.refl _ _).alloc (Nat.le_refl _) _
          have hz : OwnAt w1 w.heap.size 3 (vI (castL (List.replicate m 0))) := OwnAt.all (OwnAt.drew (own_zeros w m)) hb1
          exact ⟨_, At, ct, w.heap.size, rfl, by omega, BoxN.new w1 _ _, it.below hbz, fun hne => by
            obtain ⟨gt, e, hg, og⟩ := ot hne
            simp at hg
            exact ⟨gt, e, by omega, og.all hbz, by omega⟩, Nat.le_refl _, hz.all hbz, hbw1.trans (hbz.mono (by omega))⟩
      case rest =>
        obtain ⟨p, At, ct, gs, rfl, hp, hbx, it, ot, hgs, og, hbw⟩ := hcut
        clear hbA hbB K1 hmk
        have hps := hbx.lt
        have hgl := og.lt
        go_wp2_with fail
        have hpB : p < wc.heap.size := hps
        have hrest : WRest w.heap.size wc.heap.size T At gs m wc := ⟨fun hne => by
          obtain ⟨gt, e, h1, h2, h3⟩ := ot hne
          exact ⟨gt, e, h1, h2.lt, h2, h3⟩, hgl, og⟩
        have hszw := hbw.size
        clear ot og it hps hgl
        go_loopw [37] (fun i wr => ∃ (j : Nat) (v : Value), j ≤ k ∧ i = .int .i64 j ∧ BoxN wr p 75 #[.slice At k ct, .slice (some ⟨gs, 0, none⟩) m m, v] ∧ OwnI wr wc.heap.size v (castL (pows j)) ∧ WRest w.heap.size wc.heap.size T At gs m wr ∧ Below w.heap.size w wr ∧ wc.heap.size ≤ wr.heap.size) (fun i _ => k - (intOf i).toNat)
        case atStart => exact ⟨0, _, Nat.zero_le _, rfl, hbx, OwnI.nil _ _, hrest, hbw, Nat.le_refl _⟩
        case round =>
          clear hbx hrest hbw
          obtain ⟨j, v, hj, rfl, hbx, hown, hrest, hbw, hsz⟩ := hrel
          by_cases hlt : j < k
          · have h62 : j < 62 := by omega
            have hp1 : IntKind.i64.wrap (2 ^ j) = ((2 ^ j : Nat) : Int) := wrap_pow j h62
            have hp2 : wrap64 (2 ^ j) = ((2 ^ j : Nat) : Int) := wrap64_pow j h62
            have c2 : wr.cell? ⟨p, 2, none⟩ = some v := hbx.cell rfl
            have hlen : (castL (pows j)).length < 2 ^ 40 := by rw [length_castL, length_pows]; omega
            have Hnx := Lib.hid (show castL (pows j) ++ [((2 ^ j : Nat) : Int)] = castL (pows (j + 1)) by rw [pows_succ]; simp [castL])
            generalize castL (pows j) = xs at *
            generalize 2 ^ j = pj at *
            go_wp2_with fail
            have hpl : p < wr.heap.size := hbx.lt
            have hne := World.new_ne wr ⟨p, 2, none⟩ c2
            go_region_law ((refine step_push_int (by rfl) _ _ (by rfl) (by rfl) (hown.next (w' := _) (by repeat (first | exact Below.refl _ _ | refine Below.drew ?_ | refine Below.alloc ?_ (Nat.le_refl _) _))) wr.heap.size pj (by rfl) (cell_of_row _ _ 0 _ _ _ (heap_alloc_new wr _)) hlen (by simp; omega) ?_; intro B' cc w' hown' hi' hbl; have hbz := hbl wr (by repeat (first | exact Below.refl _ _ | refine Below.drew ?_ | refine Below.alloc ?_ hsz _)); have hbx' := hbx.below hbz hpB; have c2' := hbx'.cell (k := 2) rfl; have f2' := hbx'.free 2))
            all_goals
              try go_wp2_with fail
              have hlen1 : (xs ++ [(pj : Int)]).length = xs.length + 1 := by simp
              rw [Hnx.out] at hown'
              have hszn := hbz.size
              refine ⟨⟨j + 1, _, by omega, by go_num, hbx'.set 2 _, hown'.setOut (a := ⟨p, 2, none⟩) hpB _, (hrest.below hbz).set hbx' _, (hbw.trans (hbz.mono hszw)).setCell (p := ⟨p, 2, none⟩) hp _, by simp; omega⟩, ?_⟩
              simp [intOf]; omega
          · obtain rfl : j = k := by omega
            go_wp2_with fail
            go_ret2
            obtain ⟨B', cc, rfl, hi'⟩ := hown.form
            obtain ⟨r1, r2, r3⟩ := hrest
            have hTn := Hn.out
            refine ⟨⟨p, At, some ⟨gs, 0, none⟩, B', ct, m, cc, rfl, hp, ?_, ?_, ?_, ?_, ?_⟩, hbw⟩
            · show BoxN _ _ _ #[.slice At T.length ct, .slice _ (List.replicate m 0).length m, .slice B' (pows T.length).length cc]
              rw [hTn, List.length_replicate, length_pows]
              rw [length_castL, length_pows] at hbx
              exact hbx
            · by_cases hne : T = []
              · subst hne; exact IntsAt.nil
              · obtain ⟨gt, rfl, _, _, og, _⟩ := r1 hne; exact og.ints
            · exact r3.ints
            · rw [show (wStart m T).Ho = pows T.length from rfl, hTn]; exact hi'
            · intro hS hne
              obtain ⟨gt, rfl, h1, h2, h3, h4⟩ := r1 hne
              have hlp : 0 < (castL (pows T.length)).length := by rw [length_castL, length_pows]; exact List.length_pos_iff.2 hne
              have hown2 : wr.ownsRow wc.heap.size 3 1 (.slice B' (castL (pows j)).length cc) (castL (pows j)).length ((castL (pows j)).map (.int .i64)) := hown
              rw [← hTn] at hown2
              obtain ⟨gh, rfl, hgh, ogh⟩ := OwnAt.of_owns hown2 hlp
              exact ⟨gt, gs, gh, rfl, rfl, rfl, h1, hgs, by omega, h3, r3, ogh, h4, by omega, by omega⟩
set_option maxHeartbeats 1000000 in
theorem WNew_bad (m : Int) (T : List Int) (A : Option Addr) (c : Nat) (w : World) (hT : IntsAt w A T) (hl : T.length < 2 ^ 60) (kk : Nat) (hk : wCode m T = kk) (hne : kk ≠ 0) :
    Calls Tryd.prog 23 #[.int .i64 m, .slice A T.length c] w fun e w' => e = .returned (.tuple #[.pointer none, .iface 70 (.int .i64 kk)]) ∧ w = w' := by
  unfold wCode at hk
  by_cases hm : 0 ≤ m ∧ m ≤ 8
  · rw [if_pos hm] at hk
    have C1 := Lib.hid (fun V => Within3_is m 0 8 true V (by simp; omega))
    unfold levCode at hk
    by_cases h8 : 8 < T.length
    · rw [if_pos h8] at hk
      subst hk
      clear hm hne
      generalize T.length = n at *
      go_enter Tryd.func23, Tryd.ntmps23
      go_wp2_with (go_at_call 41; with_reducible refine (C1.out _).mono ?_; rintro e w' ⟨rfl, rfl⟩)
      go_ret2
      exact ⟨rfl, rfl⟩
    · rw [if_neg h8] at hk
      have hall : T.all lvl = false := by
        cases h : T.all lvl with
        | false => rfl
        | true => rw [h] at hk; simp at hk; exact absurd hk.symm hne
      rw [hall] at hk
      simp at hk
      subst hk
      have Hall := Lib.hid hall
      clear hm hne hall
      generalize hn : T.length = n at *
      have Hn := Lib.hid hn
      clear hn
      go_enter Tryd.func23, Tryd.ntmps23
      go_wp2_with (go_at_call 41; with_reducible refine (C1.out _).mono ?_; rintro e w' ⟨rfl, rfl⟩)
      go_loop [20] (fun i => ∃ k : Nat, k ≤ n ∧ i = .int .i64 k ∧ Hid (∀ x ∈ T.take k, lvl x = true)) (fun i => n - (intOf i).toNat)
      case atStart => exact ⟨0, Nat.zero_le _, rfl, fun x hx => by simp at hx⟩
      case round =>
        obtain ⟨k, hk, rfl, hall⟩ := hrel
        by_cases hlt : k < n
        · obtain ⟨b, off, x, rfl, hx, hc⟩ := hT.at_ (k := k) (by have := Hn.out; omega)
          cases hb : lvl x with
          | true =>
            have Hb := Lib.hid (fun V => Within3_is x 0 7 true V hb)
            have Hnew := Lib.hid (show ∀ y ∈ T.take (k + 1), lvl y = true from fun y hy => by
              rw [List.take_add_one, List.mem_append] at hy
              rcases hy with hy | hy
              · exact hall.out y hy
              · rw [hx.out] at hy; simp at hy; subst hy; exact hb)
            clear hb hall
            go_wp2_with (go_at_call 41; with_reducible refine (Hb.out _).mono ?_; rintro e w' ⟨rfl, rfl⟩)
            refine ⟨⟨k + 1, ?xa, ?xb, Hnew⟩, ?xd⟩
            case xa => omega
            case xb => go_num
            case xd => simp [intOf]; omega
          | false =>
            have Hb := Lib.hid (fun V => Within3_is x 0 7 false V hb)
            clear hb hall
            go_wp2_with (go_at_call 41; with_reducible refine (Hb.out _).mono ?_; rintro e w' ⟨rfl, rfl⟩)
            go_ret2
            exact ⟨rfl, rfl⟩
        · obtain rfl : k = n := by omega
          refine absurd (List.all_eq_true.2 fun x hx => hall.out x (by rw [List.take_of_length_le (by have := Hn.out; omega)]; exact hx)) (by rw [Hall.out]; decide)
  · rw [if_neg hm] at hk
    subst hk
    have C1 := Lib.hid (fun V => Within3_is m 0 8 false V (by simp; omega))
    clear hm hne
    generalize T.length = n at *
    go_enter Tryd.func23, Tryd.ntmps23
    go_wp2_with (go_at_call 41; with_reducible refine (C1.out _).mono ?_; rintro e w' ⟨rfl, rfl⟩)
    go_ret2
    exact ⟨rfl, rfl⟩
end Go.Proofs.YtodikdmmmfeddaaDoor
