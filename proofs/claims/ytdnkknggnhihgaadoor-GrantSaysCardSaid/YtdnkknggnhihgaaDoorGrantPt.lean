/-
  Contract: grant.Path.
-/
import Derived.Test.YtdnkknggnhihgaaDoorGrantPl
import Derived.Test.YtdnkknggnhihgaaDoorGrantR
import Derived.Test.YtdnkknggnhihgaaDoorRev
namespace Go.Proofs.YtdnkknggnhihgaaDoor
open Go.RowKit
set_option maxRecDepth 100000
set_option linter.unusedVariables false

theorem path1_any (f t m u : Int) {x : Nat} {w : World} (hx : w.cell? ⟨x, 0, none⟩ = some (.int .i64 u)) :
    Calls Tryd.prog 68 #[.agg #[.int .i64 f, .int .i64 t, .int .i64 m], .pointer (some ⟨x, 0, none⟩)] w fun e w' => e = .returned (.bool (t == u)) ∧ Below w.heap.size w w' := by
  have hlt := block_lt hx
  go_enter Tryd.func68, Tryd.ntmps68
  go_wp2_with fail
  go_ret
  exact ⟨rfl, (Below.refl _ _).alloc (Nat.le_refl _) _⟩

/-- What is wrong with what is asked for a path. -/
def pCode (users : Int) (G : List Int) (n : Nat) (u : Int) : Nat := if gCode users G n = 0 then if 0 ≤ u ∧ u < users then if gHeld G n u then 0 else 5 else 1 else gCode users G n

theorem fIdx_cases (ok : Nat → Bool) (n : Nat) : (fIdx ok n = -1 ∧ ∀ i, i < n → ok i = false) ∨ ∃ k : Nat, fIdx ok n = (k : Int) ∧ k < n ∧ ok k = true ∧ ∀ i, i < k → ok i = false := by
  by_cases h : ∃ i, i < n ∧ ok i = true
  · right
    obtain ⟨i, hi, hok⟩ := h
    have hex : ∃ k, k < n ∧ ok k = true ∧ ∀ j, j < k → ok j = false := by
      induction i using Nat.strongRecOn with
      | ind i ih =>
        by_cases hc : ∃ j, j < i ∧ ok j = true
        · obtain ⟨j, hj, e⟩ := hc
          exact ih j hj (by omega) e
        · exact ⟨i, hi, hok, fun j hj => by
            cases e : ok j with
            | false => rfl
            | true => exact absurd ⟨j, hj, e⟩ hc⟩
    obtain ⟨k, hk, h1, h2⟩ := hex
    exact ⟨k, fIdx_at hk h2 h1, hk, h1, h2⟩
  · left
    have h0 : ∀ i, i < n → ok i = false := fun i hi => by
      cases e : ok i with
      | false => rfl
      | true => exact absurd ⟨i, hi, e⟩ h
    exact ⟨fIdx_none h0, h0⟩
theorem OwnI.setFar {w : World} {base : Nat} {v : Value} {xs : List Int} (h : OwnI w base v xs) {a : Addr} (ha : a.block < base) (u : Value) : OwnI (w.setCell a u) base v xs := by
  refine ⟨h.1, ?_⟩
  rcases h.2 with h0 | ⟨g, cap, cur, hv, hb, hc, r⟩
  · exact .inl h0
  · exact .inr ⟨g, cap, cur, hv, hb, (Below.heap_setCell w a u g (by omega)).trans hc, r⟩
theorem OwnI.one (w : World) (base : Nat) (x : Int) (hb : base ≤ w.heap.size) : OwnI (w.alloc (.cells #[.int .i64 x] 3)) base (.slice (some ⟨w.heap.size, 0, none⟩) 1 1) [x] :=
  ⟨by simp, .inr ⟨w.heap.size, 1, #[.int .i64 x], rfl, hb, heap_alloc_new w _, by simp, by decide, rfl, by simp⟩⟩

set_option maxHeartbeats 4000000 in
theorem GPath_ok (users : Int) (n : Nat) (G : List Int) (u0 : Int) (A : Option Addr) (c : Nat) (w : World) (h : IntsAt w A G) (hl : n * 3 ≤ G.length) (hn : n < 2 ^ 47) (hcap : n ≤ c) (hz : pCode users G n u0 = 0) :
    Calls Tryd.prog 37 #[.int .i64 users, .slice A n c, .int .i64 u0] w fun e w' => (∃ B d p, e = .returned (.tuple #[.slice B p.length d, .nilIface]) ∧ GWay G n u0 p ∧ IntsAt w' B p) ∧ Below w.heap.size w w' := by
  have hz1 : gCode users G n = 0 ∧ (0 ≤ u0 ∧ u0 < users) ∧ gHeld G n u0 = true := by
    unfold pCode at hz
    split at hz
    · rename_i h1
      split at hz
      · rename_i h2
        split at hz
        · rename_i h3; exact ⟨h1, h2, h3⟩
        · cases hz
      · cases hz
    · rename_i h1; exact absurd hz h1
  obtain ⟨hz1, hr, hh⟩ := hz1
  have C0 := fun V (hV : Below w.heap.size w V) => GCheck_any users n G A c V (h.below hV) hl hn hcap
  rw [hz1, errVal_zero] at C0
  have C0 := Lib.hid C0
  obtain ⟨hu, h40, hall⟩ := gCode_ok hz1
  have W1 := Lib.hid (fun V => Within3_is u0 0 (users - 1) true V (by simp; omega))
  have Hheld := Lib.hid (fun i (hi : i < n) => (gBad_zero.1 (hall i hi)).2.2)
  have Hh := Lib.hid hh
  clear hz hz1 hall hh hr
  go_enter Tryd.func37, Tryd.ntmps37
  go_wp2_with fail
  have hbx := BoxN.new w 3 #[.int .i64 u0]
  have hb0 := (Below.refl w.heap.size w).alloc (Nat.le_refl _) (.cells #[.int .i64 u0] 3)
  have hs0 : w.heap.size < (w.alloc (.cells #[.int .i64 u0] 3)).heap.size := by simp
  refine (C0.out _ hb0).mono ?_
  rintro e w1 ⟨rfl, hb1⟩
  have hbx1 := hbx.all hb1
  have hb01 := hb0.trans (hb1.mono hb0.size)
  have hp1 : w.heap.size < w1.heap.size := Nat.lt_of_lt_of_le hs0 hb1.size
  have c1 : w1.cell? ⟨w.heap.size, 0, none⟩ = some (.int .i64 u0) := hbx1.cell rfl
  clear C0 hbx hb0 hb1 hs0
  go_wp2_with (go_at_call 55; with_reducible refine (W1.out _).mono ?_; rintro e w' ⟨rfl, rfl⟩)
  clear W1
  have ho1 := OwnI.one w1 w1.heap.size u0 (Nat.le_refl _)
  have hbx2 := hbx1.alloc (.cells #[.int .i64 u0] 3)
  have hb02 := hb01.alloc hb01.size (.cells #[.int .i64 u0] 3)
  have hs2 : w1.heap.size ≤ (w1.alloc (.cells #[.int .i64 u0] 3)).heap.size := by simp
  generalize w1.alloc (.cells #[.int .i64 u0] 3) = w2 at *
  generalize w1.heap.size = base at *
  clear hbx1 hb01 c1
  have hwb : w.heap.size ≤ base := by omega
  obtain ⟨pb, hpb⟩ : ∃ pb, w.heap.size = pb := ⟨_, rfl⟩
  have hpw : w.heap.size ≤ pb := by omega
  rw [hpb] at hbx2 hp1
  have Hpb := Lib.hid hpb
  go_loopw [9, 10] (fun o bf wr => ∃ (b : Nat) (u : Int) (zs : List Int), bf = .int .i64 b ∧ b ≤ n ∧ BoxN wr pb 3 #[.int .i64 u] ∧ OwnI wr base o (zs ++ [u]) ∧ Hid (gHeld G b u = true) ∧ Hid (∀ p, GWay G b u p → GWay G n u0 (p ++ zs.reverse)) ∧ zs.length + b ≤ n ∧ Below w.heap.size w wr ∧ base ≤ wr.heap.size) (fun _ bf _ => (intOf bf).toNat)
  case atStart => exact ⟨n, u0, [], rfl, Nat.le_refl _, hbx2, ho1, Hh.out, fun p hp => by simpa using hp, by simp, hb02, hs2⟩
  case round =>
    clear hbx2 ho1 hb02 hs2 Hh
    obtain ⟨b, u, zs, rfl, hbn, hbx, hown, hhd, hway, hlen, hbr, hsz⟩ := hrel
    have cu : wr.cell? ⟨pb, 0, none⟩ = some (.int .i64 u) := hbx.cell rfl
    rw [hpb]
    by_cases hu0 : u = 0
    · subst hu0
      have Hw := Lib.hid (hway.out [0] (.zero b))
      have hle : (zs ++ [(0 : Int)]).reverse = [0] ++ zs.reverse := by simp
      obtain ⟨A', d, hv, hi⟩ := hown.form
      have hown' : wr.ownsRow base 3 1 _ (zs ++ [(0 : Int)]).length ((zs ++ [(0 : Int)]).map (.int .i64)) := hown
      rw [hv] at hown'
      obtain ⟨g, hA', hg, hoa⟩ := OwnAt.of_owns hown' (by simp)
      subst hA'
      have HRv := Lib.hid (Reverse_any (zs ++ [(0 : Int)]) g base d wr hoa hg (by simp; omega))
      have hL1 : (zs ++ [(0 : Int)]).length = ([0] ++ zs.reverse).length := by simp
      obtain ⟨L, hL⟩ : ∃ L, (zs ++ [(0 : Int)]).length = L := ⟨_, rfl⟩
      rw [hL] at HRv hv hL1
      have HL := Lib.hid hL1
      clear hown hown' hway hhd hi hoa hL hL1
      subst hv
      go_wp2_with fail
      refine HRv.out.mono ?_
      rintro e w3 ⟨rfl, ho3, hb3⟩
      go_wp2_with fail
      go_ret2
      rw [hle] at ho3
      exact ⟨⟨some ⟨g, 0, none⟩, d, [0] ++ zs.reverse, by rw [← HL.out]; rfl, Hw.out, ho3.ints⟩, hbr.trans (hb3.mono hwb)⟩
    · have du : (u != 0) = true := by simpa using hu0
      have hcs := fIdx_cases (fun i => gTo G i == u) b
      obtain ⟨k, hk, hkb, hok, hno⟩ : ∃ k : Nat, fIdx (fun i => gTo G i == u) b = (k : Int) ∧ k < b ∧ gTo G k = u ∧ ∀ j, j < k → gTo G j ≠ u := by
        rcases hcs with ⟨_, h0⟩ | ⟨k, h1, h2, h3, h4⟩
        · rcases gHeld_iff.1 hhd.out with e | ⟨i, hi, e⟩
          · exact absurd e hu0
          · have := h0 i hi
            rw [e] at this
            simp at this
        · exact ⟨k, h1, h2, by simpa using h3, fun j hj e => by have := h4 j hj; rw [e] at this; simp at this⟩
      have hkn : k < n := by omega
      have HI := IndexG_any b G A c wr (h.below hbr) (by omega) (by omega) (fun i => gTo G i == u) 68 #[.pointer (some ⟨pb, 0, none⟩)] (enters_of Tryd.func68 (by kernel_rfl) rfl)
        (fun V i hV hi => path1_any _ _ _ _ ((hbx.all hV).cell rfl))
      rw [hk] at HI
      have HI := Lib.hid HI
      have Hhd2 := Lib.hid (Hheld.out k hkn)
      have Hway2 := Lib.hid (fun p (hp : GWay G k (gFr G k) p) => show GWay G n u0 (p ++ (zs ++ [u]).reverse) by
        have := hway.out _ (.step hu0 hkb hok hno hp)
        simpa using this)
      have hbc : b ≤ c := by omega
      have hlen2 : (zs ++ [u]).length + k ≤ n := by simp; omega
      clear hcs hk hok hno hway hhd hu0
      go_wp2_with fail
      refine HI.out.mono ?_
      rintro e w3 ⟨rfl, hb3⟩
      clear HI
      have hb03 := hbr.trans (hb3.mono hbr.size)
      have hs3 := hb3.size
      obtain ⟨bb, off, rfl, hbw, q0, q1, q2⟩ := grant_at h hl hkn hb03
      clear q1 q2
      have hbx3 := hbx.all hb3
      have c3 : w3.cell? ⟨pb, 0, none⟩ = some (.int .i64 u) := hbx3.cell rfl
      have f3 := hbx3.free 0
      have hl3 := hbx3.lt
      have hset := hbx3.set 0 (.int .i64 (gFr G k))
      have hown3 := (hown.next hb3).setFar (a := ⟨pb, 0, none⟩) hp1 (.int .i64 (gFr G k))
      have hlt40 : (zs ++ [u]).length < 2 ^ 40 := by omega
      have hb13 := hb03.setCell (p := ⟨pb, 0, none⟩) hpw (.int .i64 (gFr G k))
      have hk0 : decide ((k : Int) < 0) = false := by simp
      clear hbx hown hbr cu hb03 hbx3
      generalize gFr G k = x0 at *
      have hsS : base ≤ (w3.setCell ⟨pb, 0, none⟩ (.int .i64 x0)).heap.size := by simp; omega
      generalize zs ++ [u] = ys at *
      go_wp2_with (at_builtin; refine wpList_push_int rfl _ _ rfl rfl (hown3.next ((Below.refl _ _).alloc (Nat.le_refl _) _)) w3.heap.size x0 rfl ((BoxN.new' (w3.setCell ⟨pb, 0, none⟩ (.int .i64 x0)) 3 #[.int .i64 x0] w3.heap.size (by simp)).cell rfl) hlt40 (by simp; omega) ?_; intro v' w6 hown6 _ _ hbl)
      have hb36 := hbl (w3.setCell ⟨pb, 0, none⟩ (.int .i64 x0)) ((Below.refl _ _).alloc hsS _)
      have hs6 := hb36.size
      clear hbl hown3
      go_wp2_with fail
      have hfin := hb13.trans (hb36.mono hwb)
      rw [Hpb.out] at hfin
      refine ⟨⟨k, x0, ys, ?ya, ?yb, ?yc, hown6, Hhd2.out, Hway2.out, hlen2, hfin, ?ye⟩, ?yd⟩
      case ya => rfl
      case yb => omega
      case yc => exact BoxN.below hset hb36 hp1
      case ye => omega
      case yd => simp [intOf]; omega
end Go.Proofs.YtdnkknggnhihgaaDoor
