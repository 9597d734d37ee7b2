/-
  Contract: take.chain: the least of the shortest ways to one that has the right.
-/
import Derived.Test.YtpfmllpodjcldaaDoorTakeA
import Derived.Test.YtpfmllpodjcldaaDoorTakeC
import Derived.Test.YtpfmllpodjcldaaDoorBfs
import Derived.Test.YtpfmllpodjcldaaDoorQueue
import Derived.Test.YtpfmllpodjcldaaDoorMany
import Derived.Test.YtpfmllpodjcldaaDoorRev
import Derived.Test.YtpfmllpodjcldaaDoorOver
import Derived.Test.YtpfmllpodjcldaaDoorBitN
import Derived.BigQuiet
import Derived.Lib.IfaceEq
import Derived.LaidEql
namespace Go.Proofs.YtpfmllpodjcldaaDoor
open Go.RowKit
set_option maxRecDepth 100000
set_option linter.unusedVariables false

def gN (L : List (List Int)) (x y : Nat) : Nat := (gAt L x y).toNat
theorem GOk.lt {L : List (List Int)} (h : GOk L) {x y : Nat} (hx : x < L.length) (hy : y < L.length) : gN L x y < 8 := by
  have := h.cell x y hx hy
  unfold gN; omega
theorem GOk.nat {L : List (List Int)} (h : GOk L) {x y : Nat} (hx : x < L.length) (hy : y < L.length) : gAt L x y = ((gN L x y : Nat) : Int) := by
  have := h.cell x y hx hy
  unfold gN; omega
abbrev gE (L : List (List Int)) : Nat → Nat → Prop := Edge (gN L) L.length
abbrev gGood (L : List (List Int)) (kb over : Nat) (x : Nat) : Prop := (gN L x over).testBit kb = true
theorem tg_and : ∀ a, a < 8 → ∀ b, b < 8 → (((a ||| b) &&& 3 = 0) = ¬ ((a.testBit 0 = true ∨ a.testBit 1 = true) ∨ (b.testBit 0 = true ∨ b.testBit 1 = true))) := by
  intro a ha b hb
  have : ∀ a, a < 8 → ∀ b, b < 8 → (((a ||| b) &&& 3 = 0) ↔ ¬ ((a.testBit 0 = true ∨ a.testBit 1 = true) ∨ (b.testBit 0 = true ∨ b.testBit 1 = true))) := by decide
  exact propext (this a ha b hb)
theorem and_bit : ∀ a, a < 8 → ∀ k, k < 3 → ((a &&& 2 ^ k = 0) ↔ a.testBit k = false) := by decide
theorem cnt_pow : ∀ k, k < 3 → cnt 8 (2 ^ k) = 1 := by decide

/-- What is found: a way, of which none to a good one is lesser; or none. -/
def ChainPost (L : List (List Int)) (kb who over : Nat) (e : Ending) (w' : World) : Prop :=
  (∃ (p : List Nat) (x : Nat) (A : Option Addr) (c : Nat), e = .returned (.tuple #[.slice A p.length c, .nilIface]) ∧ IntsAt w' A (castL p) ∧ WayTo (gE L) who p x ∧ gGood L kb over x ∧ (∀ p' x', WayTo (gE L) who p' x' → gGood L kb over x' → SLe p p')) ∨
  (e = .returned (.tuple #[.slice none 0 0, .iface 59 (.int .i64 5)]) ∧ ∀ p' x', WayTo (gE L) who p' x' → ¬ gGood L kb over x')

/-- The way back, as far as it is told. -/
def backWay (ps : List (List Nat)) (k : Int) : List Nat := if k < 0 then [] else ps.getD k.toNat []
theorem castL_append (p r : List Nat) : castL (p ++ r) = castL p ++ castL r := by simp [castL]
theorem castL_reverse (p : List Nat) : castL p.reverse = (castL p).reverse := by simp [castL]
theorem row_int {L : List (List Int)} (h : GOk L) {w : World} {A : Option Addr} {n : Nat} (hL : RowsIn anyB 1 w A L) (hn : L.length = n) {x : Nat} (hx : x < n) :
    ∃ b off b1 off1 c1, A = some ⟨b, off, none⟩ ∧ w.cell? ⟨b, off + x, none⟩ = some (.slice (some ⟨b1, off1, none⟩) n c1) ∧ ∀ y, y < n → w.cell? ⟨b1, off1 + y, none⟩ = some (.int .i64 (gN L x y : Nat)) := by
  obtain ⟨b, off, Ai, ni, ci, rfl, c0, hli, hni, hi⟩ := hL.get (i := x) (by omega)
  rw [h.row x (by omega), Nat.mul_one] at hli
  obtain ⟨b1, off1, rfl, _⟩ := int_cell hi (i := x) (by rw [h.row x (by omega)]; omega)
  refine ⟨b, off, b1, off1, ci, rfl, by rw [c0, ← hli, hn], fun y hy => ?_⟩
  obtain ⟨b2, off2, e2, c2⟩ := int_cell hi (i := y) (by rw [h.row x (by omega)]; omega)
  injection e2 with e2
  injection e2 with e3 e4
  subst e3; subst e4
  rw [c2]
  congr 2
  exact h.nat (by omega) (by omega)

theorem row_int2 {L : List (List Int)} (h : GOk L) {w : World} {b off : Nat} {n : Nat} (hL : RowsIn anyB 1 w (some ⟨b, off, none⟩) L) (hn : L.length = n) {x : Nat} (hx : x < n) :
    ∃ b1 off1 c1, w.cell? ⟨b, off + x, none⟩ = some (.slice (some ⟨b1, off1, none⟩) n c1) ∧ ∀ y, y < n → w.cell? ⟨b1, off1 + y, none⟩ = some (.int .i64 (gN L x y : Nat)) := by
  obtain ⟨b', off', b1, off1, c1, e, h1, h2⟩ := row_int h hL hn hx
  injection e with e
  injection e with e1 e2
  subst e1; subst e2
  exact ⟨b1, off1, c1, h1, h2⟩
/-- A row of one's own that the queue does not touch is none of the queue's. -/
theorem sep_step {S S' : Nat → Prop} {w : World} {v : Value} {base n : Nat} {e : TypeId} {xs : List Value} {size : Nat} (hs : ∀ g, v.ownBlock = some g → ¬ S g) (ho : w.ownsRow base e size v n xs) (h : ∀ b, S' b → S b ∨ w.heap.size ≤ b) : ∀ g, v.ownBlock = some g → ¬ S' g := fun g hg h' => by
  rcases h g h' with h1 | h1
  · exact hs g hg h1
  · have := (own_lt ho hg).2; omega

set_option maxHeartbeats 8000000 in
theorem Chain_ok {w : World} {A : Option Addr} {c n : Nat} {L : List (List Int)} (hL : RowsIn anyB 1 w A L) (hn : L.length = n) (hg : GOk L) {kb who over : Nat} (hk : kb < 3) (hw : who < n) (ho : over < n) (hne : who ≠ over) :
    Calls Tryd.prog 40 #[.slice A n c, .int .i64 (2 ^ kb : Nat), .int .i64 who, .int .i64 over] w fun e w' => ChainPost L kb who over e w' ∧ Below w.heap.size w w' := by
  have hn20 : n ≤ 20 := by have := hg.few; omega
  have HC := TCheck_any (c := c) hL hn (by unfold maxLen; omega)
  rw [gCode_ok hg, errVal_zero] at HC
  have HC := Lib.hid HC
  have W1 := Lib.hid (fun V => Within3_is (who : Int) 0 ((n : Int) - 1) true V (by simp; omega))
  have W2 := Lib.hid (fun V => Within3_is (over : Int) 0 ((n : Int) - 1) true V (by simp; omega))
  have hp4 : 2 ^ kb = 1 ∨ 2 ^ kb = 2 ∨ 2 ^ kb = 4 := by
    have : kb = 0 ∨ kb = 1 ∨ kb = 2 := by omega
    rcases this with rfl | rfl | rfl <;> simp
  have W3 := Lib.hid (fun V => Within3_is ((2 ^ kb : Nat) : Int) 0 4 true V (decide_eq_true (by omega)))
  have M1 := fun V => CMany_any (2 ^ kb) (by omega) V
  rw [cnt_pow kb hk] at M1
  have M1 := Lib.hid M1
  have d0 : ((who : Int) == (over : Int)) = false := by simp; omega
  have Hg := Lib.hid hg
  have HL := Lib.hid hL
  have Hk := Lib.hid hk
  have HE := Lib.hid (show ∀ x y, gE L x y → y < n from fun x y h => by have := h.2.1; omega)
  have Hp := Lib.hid (show ∀ x, x < n → (((gN L x over &&& 2 ^ kb : Nat) : Int) != 0) = decide (gGood L kb over x) from fun x hx => by
    have := and_bit (gN L x over) (hg.lt (by omega) (by omega)) kb hk
    by_cases hb : gGood L kb over x
    · have h0 : ¬ (gN L x over &&& 2 ^ kb = 0) := fun e => by
        have h1 := this.1 e
        rw [show (gN L x over).testBit kb = true from hb] at h1
        cases h1
      rw [decide_eq_true hb]
      simpa using fun e => h0 (by omega)
    · rw [decide_eq_false hb, this.2 (by simpa [gGood] using hb)]
      rfl)
  have hp5 : 2 ^ kb < 2 ^ 62 := by omega
  have Hp5 := Lib.hid hp5
  generalize 2 ^ kb = r at *
  clear hg hL hk hp4 hp5
  go_enter Tryd.func40, Tryd.ntmps40
  go_wp2_with (first | (go_at_call 8; with_reducible refine HC.out.mono ?_; rintro e w' ⟨rfl, rfl⟩) | (go_at_call 31; first | (with_reducible refine (W1.out _).mono ?_; rintro e w' ⟨rfl, rfl⟩) | (with_reducible refine (W2.out _).mono ?_; rintro e w' ⟨rfl, rfl⟩) | (with_reducible refine (W3.out _).mono ?_; rintro e w' ⟨rfl, rfl⟩)) | (go_at_call 52; with_reducible refine (M1.out _).mono ?_; rintro e w' ⟨rfl, rfl⟩))
  have hq0 := QAt.new (B := w.heap.size) w (Nat.le_refl _)
  refine (QAdd_new hq0 (by simp) (by simp) who (by omega) (by simp)).mono ?_
  rintro e w1 ⟨⟨c1, rfl⟩, S1, hq1, hS1, hk1⟩
  have hb1 : Below w.heap.size w w1 := hk1.to_below (fun b hb => Nat.le_of_eq hb.symm) ((Below.refl _ w).alloc (Nat.le_refl _) _) (by simp)
  have hB0 := Lib.hid (Bfs.start (gE L) who)
  have hq2 := hq1.below ((Below.refl _ w1).alloc (Nat.le_refl _) (.cells #[.int .i64 (-1)] 3))
  have ho2 : OwnI (w1.alloc (.cells #[.int .i64 (-1)] 3)) w.heap.size (.slice (some ⟨w1.heap.size, 0, none⟩) 1 1) [-1] := ⟨by simp, .inr ⟨w1.heap.size, 1, #[.int .i64 (-1)], rfl, hb1.size, heap_alloc_new w1 _, by simp, by decide, rfl, by simp⟩⟩
  have hs2 := Lib.hid (show ∀ g, (Value.slice (some ⟨w1.heap.size, 0, none⟩) 1 1).ownBlock = some g → ¬ S1 g from fun g hg h => by
    have h1 := (hq1.in_ g h).2
    simp [Value.ownBlock] at hg
    omega)
  have hb2 := hb1.alloc hb1.size (.cells #[.int .i64 (-1)] 3)
  clear hq0 hq1 hS1 hk1 hb1
  go_wp2_with fail
  generalize w1.alloc (.cells #[.int .i64 (-1)] 3) = w2 at *
  generalize w1.heap.size = g1 at *
  go_loopw [12, 13] (fun v i wr => ∃ (k : Nat) (q : List Nat) (fr : List Int) (ps : List (List Nat)) (S : Nat → Prop), k ≤ q.length ∧ i = .int .i64 k ∧ Hid (Bfs (gE L) who k 0 q fr ps) ∧ Hid (∀ j, j < k → ¬ gGood L kb over (q.getD j 0)) ∧ QAt w.heap.size wr w.heap.size S q ∧ OwnI wr w.heap.size v fr ∧ Hid (∀ g, v.ownBlock = some g → ¬ S g) ∧ Below w.heap.size w wr) (fun _ i _ => n - (intOf i).toNat)
  case atStart => exact ⟨0, [who], [-1], [[who]], S1, by simp, rfl, hB0, Lib.hid (fun j hj => by omega), hq2, ho2, hs2, hb2⟩
  case round =>
    clear hB0 hq2 ho2 hs2 hb2
    obtain ⟨k, q, fr, ps, S, hkq, rfl, hbf, hno, hq, hown, hsep, hbr⟩ := hrel
    have hle := hbf.out.le hw HE.out
    have HQL := Lib.hid (QLen_any hq)
    by_cases hlt : k < q.length
    · have hx : q.getD k 0 < n := hbf.out.lt hw HE.out _ (getD_mem hlt)
      have HQA := QAt_any hq hlt (by omega)
      obtain ⟨x, hxe⟩ : ∃ x, q.getD k 0 = x := ⟨_, rfl⟩
      rw [hxe] at hx HQA
      have HQA := Lib.hid HQA
      obtain ⟨b, off, b1, off1, c2, rfl, r0, r1⟩ := row_int Hg.out (HL.out.below hbr) hn hx
      have r2 := r1 over ho
      have hbits := bits_and_nat (gN L x over) r (by have := Hg.out.lt (x := x) (y := over) (by omega) (by omega); omega) Hp5.out
      have hpx := Hp.out _ hx
      have R1 := Lib.hid r1
      have Hxe := Lib.hid hxe
      clear r1 hxe
      by_cases hgood : gGood L kb over x
      · rw [decide_eq_true hgood] at hpx
        have Hway := Lib.hid (hbf.out.way k hlt)
        rw [Hxe.out] at Hway
        have Hfirst := Lib.hid (fun p' x' hwy hgx => hbf.out.first hlt (good := gGood L kb over) hno.out (p := p') (x := x') hwy hgx)
        have Hgood := Lib.hid hgood
        obtain ⟨A', c', rfl, hiF⟩ := hown.form
        obtain ⟨b5, off5, rfl, hcF⟩ := hiF (by have := hbf.out.lf; intro e; rw [e] at this; simp at this; omega)
        have HcF := Lib.hid hcF
        have hfl := hbf.out.lf
        have Hq := Lib.hid hq
        have hltI : decide ((k : Int) < (q.length : Int)) = true := decide_eq_true (by omega)
        clear hno hgood hown hsep hcF hiF R1 hq hfl hkq
        generalize gN L x over = g2 at *
        generalize g2 &&& r = g3 at *
        go_wp2_with (first | (go_at_call 63; with_reducible refine HQL.out.mono ?_; rintro e w' ⟨rfl, rfl⟩) | (go_at_call 64; with_reducible refine HQA.out.mono ?_; rintro e w' ⟨rfl, rfl⟩))
        clear HQL HQA r0 r2 hbits hpx hltI
        obtain ⟨wz, hwz⟩ : ∃ wz, wz = wr := ⟨wr, rfl⟩
        subst hwz
        go_loopw [15, 16] (fun o kk wo => ∃ (z : Int) (zs : List Nat), kk = .int .i64 z ∧ -1 ≤ z ∧ z < q.length ∧ OwnI wo wz.heap.size o (castL zs) ∧ Hid (zs ++ (backWay ps z).reverse = (ps.getD k []).reverse) ∧ (zs.length : Int) + z ≤ k ∧ Below wz.heap.size wz wo) (fun _ kk _ => (intOf kk + 1).toNat)
        case atStart => exact ⟨k, [], rfl, by omega, by omega, OwnI.nil _ _, Lib.hid (by unfold backWay; rw [if_neg (by omega)]; rfl), by simp, Below.refl _ _⟩
        case round =>
          obtain ⟨z, zs, rfl, hz1, hzq, hown, hzs, hlen, hbo⟩ := hrel
          by_cases hz : 0 ≤ z
          · obtain ⟨zn, rfl⟩ := Int.eq_ofNat_of_zero_le hz
            have hzn : zn < q.length := by omega
            have HQZ := Lib.hid (QAt_any (Hq.out.below hbo) hzn (by omega))
            have hback := hbf.out.back hzn
            have hfx : wz.cell? ⟨b5, off5 + zn, none⟩ = some (.int .i64 (fr.getD zn 0)) := HcF.out zn _ (by rw [List.getD_eq_getElem?_getD, List.getElem?_eq_getElem (by rw [hbf.out.lf]; exact hzn)]; rfl)
            have Hfx := Lib.hid hfx
            have Hfl := Lib.hid (block_lt hfx)
            have hlI : zn < fr.length := by rw [hbf.out.lf]; exact hzn
            have hbw : backWay ps (zn : Int) = ps.getD zn [] := by unfold backWay; rw [if_neg (by omega)]; simp
            rw [hbw] at hzs
            have hzlen : (castL zs).length < 2 ^ 40 := by rw [length_castL]; omega
            have Hnext := Lib.hid (show -1 ≤ fr.getD zn 0 ∧ fr.getD zn 0 < zn ∧ ((zs ++ [q.getD zn 0]) ++ (backWay ps (fr.getD zn 0)).reverse = (ps.getD k []).reverse) from by
              rcases hback with ⟨h0, h1, h2⟩ | ⟨u, h0, h1, h2⟩
              · rw [h1, ← hzs.out, h2]
                refine ⟨by omega, by omega, ?_⟩
                unfold backWay
                simp
              · rw [h1, ← hzs.out, h2]
                refine ⟨by omega, by omega, ?_⟩
                unfold backWay
                rw [if_neg (by omega)]
                simp)
            have hbo2 := hbo.size
            clear hfx hback hbw hzs
            generalize fr.getD zn 0 = z2 at *
            generalize q.getD zn 0 = y2 at *
            go_wp2_with (first | (go_at_call 64; with_reducible refine HQZ.out.mono ?_; rintro e w' ⟨rfl, rfl⟩) | (at_builtin; refine wpList_push_int rfl _ _ rfl (base := wz.heap.size) (v := u15) rfl (hown.next ((Below.refl _ wr).alloc (Nat.le_refl _) _)) wr.heap.size (y2 : Int) rfl (cell_of_row _ _ 0 _ _ _ (heap_alloc_new wr _)) hzlen (by simp; omega) ?_; intro v2 w4 ho4 hg4 hv4 hbl4; have hb4 := hbl4 _ (hbo.alloc hbo2 (.cells #[.int .i64 (y2 : Int)] 3)); have hfy4 := (hb4.cell (p := ⟨b5, off5 + zn, none⟩) Hfl.out).trans Hfx.out))
            refine ⟨⟨z2, zs ++ [y2], rfl, ?ya, ?yb, ?yc, Lib.hid Hnext.out.2.2, ?ye, hb4⟩, ?yd⟩
            case ya => exact Hnext.out.1
            case yb => have := Hnext.out.2.1; omega
            case yc => rw [castL_push]; exact ho4
            case ye => have := Hnext.out.2.1; simp; omega
            case yd => have := Hnext.out; simp [intOf]; omega
          · obtain rfl : z = -1 := by omega
            have hzs2 : zs = (ps.getD k []).reverse := by
              have := hzs.out
              unfold backWay at this
              simpa using this
            have hlz : zs.length = (ps.getD k []).length := by rw [hzs2]; simp
            have hle2 : castL (ps.getD k []) = (castL zs).reverse := by rw [← castL_reverse, hzs2, List.reverse_reverse]
            have hown' : wr.ownsRow wz.heap.size 3 1 u15 (castL zs).length ((castL zs).map (.int .i64)) := hown
            have hzne : 0 < (castL zs).length := by rw [length_castL, hlz]; exact Hway.out.pos
            obtain ⟨A9, c9, hv9, _⟩ := hown.form
            rw [hv9] at hown'
            obtain ⟨g9, hA9, hg9, hoa⟩ := OwnAt.of_owns hown' hzne
            subst hA9
            have HR := Lib.hid (Reverse_any (castL zs) g9 wz.heap.size c9 wr hoa hg9 (by rw [length_castL]; omega))
            obtain ⟨l9, hl9⟩ : ∃ l9, (castL zs).length = l9 := ⟨_, rfl⟩
            have Hl9 := Lib.hid (show l9 = (ps.getD k []).length by rw [← hl9, length_castL, hlz])
            rw [hl9] at HR hv9
            have Hle2 := Lib.hid hle2
            clear hzs hzs2 hlz hle2 hown' hoa hown hl9 hzne
            subst hv9
            go_wp2_with fail
            refine HR.out.mono ?_
            rintro e w5 ⟨rfl, ho5, hb5⟩
            go_wp2_with fail
            go_ret2
            refine ⟨.inl ⟨ps.getD k [], x, some ⟨g9, 0, none⟩, c9, ?_, ?_, Hway.out, Hgood.out, Hfirst.out⟩, hbr.trans ((hbo.trans hb5).mono hbr.size)⟩
            · rw [← Hl9.out]; rfl
            · rw [Hle2.out]; exact ho5.ints
      · rw [decide_eq_false hgood] at hpx
        generalize gN L x over = g2 at *
        generalize g2 &&& r = g3 at *
        have hltI : decide ((k : Int) < (q.length : Int)) = true := decide_eq_true (by omega)
        go_wp2_with (first | (go_at_call 63; with_reducible refine HQL.out.mono ?_; rintro e w' ⟨rfl, rfl⟩) | (go_at_call 64; with_reducible refine HQA.out.mono ?_; rintro e w' ⟨rfl, rfl⟩))
        clear HQL HQA r0 r2 hbits hpx R1 hltI
        have Hno2 := Lib.hid (show ∀ j, j < k + 1 → ¬ gGood L kb over (q.getD j 0) from fun j hj => by
          rcases Nat.lt_or_ge j k with h1 | h1
          · exact hno.out j h1
          · obtain rfl : j = k := by omega
            rw [Hxe.out]; exact hgood)
        clear hno hgood
        obtain ⟨wz, hwz⟩ : ∃ wz, wz = wr := ⟨wr, rfl⟩
        subst hwz
        go_loopw [12, 91] (fun v y wi => ∃ (m : Nat) (q : List Nat) (fr : List Int) (ps : List (List Nat)) (S : Nat → Prop), m ≤ n ∧ y = .int .i64 m ∧ Hid (Bfs (gE L) who k m q fr ps) ∧ Hid (∀ j, j < k + 1 → ¬ gGood L kb over (q.getD j 0)) ∧ k < q.length ∧ Hid (q.getD k 0 = x) ∧ QAt w.heap.size wi w.heap.size S q ∧ OwnI wi w.heap.size v fr ∧ Hid (∀ g, v.ownBlock = some g → ¬ S g) ∧ Below w.heap.size w wi) (fun _ y _ => n - (intOf y).toNat)
        case atStart => exact ⟨0, q, fr, ps, S, Nat.zero_le _, rfl, hbf, Hno2, hlt, Hxe, hq, hown, hsep, hbr⟩
        case round =>
          clear hbf Hno2 hlt Hxe hq hown hsep hbr hle hkq
          obtain ⟨m, q, fr, ps, S, hmn, rfl, hbf, hno, hlt, Hxe, hq, hown, hsep, hbr⟩ := hrel
          have hle := hbf.out.le hw HE.out
          by_cases hm : m < n
          · obtain ⟨b1, off1, c2, r0, r1⟩ := row_int2 Hg.out (HL.out.below hbr) hn hx
            obtain ⟨b3, off3, c4, r2, r3⟩ := row_int2 Hg.out (HL.out.below hbr) hn hm
            have r4 := r1 m hm
            have r5 := r3 x hx
            have l1 := Hg.out.lt (x := x) (y := m) (by omega) (by omega)
            have l2 := Hg.out.lt (x := m) (y := x) (by omega) (by omega)
            have ht := tg_and _ l1 _ l2
            have hb1 := bits_or_nat (gN L x m) (gN L m x) (by omega) (by omega)
            have hb2 : bits .and .i64 ((gN L x m ||| gN L m x : Nat) : Int) 3 = (((gN L x m ||| gN L m x) &&& 3 : Nat) : Int) := bits_and_nat _ 3 (Nat.lt_of_lt_of_le (Nat.or_lt_two_pow (n := 3) l1 l2) (by decide)) (by decide)
            have hed : gE L x m ↔ ¬ ((gN L x m ||| gN L m x) &&& 3 = 0) := by
              rw [ht, Classical.not_not]
              exact ⟨fun h => h.2.2, fun h => ⟨by omega, by omega, h⟩⟩
            have Hed := Lib.hid hed
            clear r1 r3 ht hed l1 l2
            generalize gN L x m = g1 at *
            generalize gN L m x = g2 at *
            generalize g1 ||| g2 = g3 at *
            generalize g3 &&& 3 = g4 at *
            by_cases hg4 : g4 = 0
            · have dt : (((g4 : Nat) : Int) != 0) = false := by subst hg4; rfl
              have Hbf := Lib.hid (hbf.out.skip (by rw [Hxe.out]; exact fun h => Hed.out.1 h hg4))
              have hq' := fun t => hq.keep (w' := wr.drewN t) (Nat.le_refl _) (fun _ _ => rfl)
              clear hg4 Hed hbf
              go_wp2_with fail
              go_quiet (fail)
              go_wp2_with fail
              refine ⟨⟨m + 1, q, fr, ps, S, ?ya, ?yb, Hbf, hno, hlt, Hxe, hq' _, hown.drewN _, hsep, belowD hbr _⟩, ?yd⟩
              case ya => omega
              case yb => go_num
              case yd => simp [intOf]; omega
            · have dt : (((g4 : Nat) : Int) != 0) = true := by simpa using hg4
              have he : gE L (q.getD k 0) m := by rw [Hxe.out]; exact Hed.out.2 hg4
              clear hg4 Hed
              have hq' := fun t => hq.keep (w' := wr.drewN t) (Nat.le_refl _) (fun _ _ => rfl)
              by_cases hmq : m ∈ q
              · have Hbf := Lib.hid (hbf.out.had hlt hmq)
                have HA := Lib.hid (fun t => QAdd_had (hq' t) m (by omega) hmq)
                clear he hbf
                go_wp2_with fail
                go_quiet (fail)
                go_wp2_with (go_at_call 62; with_reducible refine (HA.out _).mono ?_; rintro e w' ⟨⟨cc, rfl⟩, rfl⟩)
                refine ⟨⟨m + 1, q, fr, ps, S, ?ya, ?yb, Hbf, hno, hlt, Hxe, hq' _, hown.drewN _, hsep, belowD hbr _⟩, ?yd⟩
                case ya => omega
                case yb => go_num
                case yd => simp [intOf]; omega
              · have Hbf := Lib.hid (hbf.out.found hlt hmq he)
                have HA := Lib.hid (fun t => QAdd_new (hq' t) hbr.size (by omega) m (by omega) hmq)
                have Hxe2 := Lib.hid (show (q ++ [m]).getD k 0 = x by rw [getD_push _ _ _ hlt]; exact Hxe.out)
                have Hno2 := Lib.hid (show ∀ j, j < k + 1 → ¬ gGood L kb over ((q ++ [m]).getD j 0) from fun j hj => by rw [getD_push _ _ _ (by omega)]; exact hno.out j hj)
                have hlt2 : k < (q ++ [m]).length := by simp; omega
                have hfl : fr.length ≤ n := by rw [hbf.out.lf]; exact hle
                clear he hbf hno Hxe
                go_wp2_with fail
                go_quiet (fail)
                go_wp2_with fail
                refine (HA.out _).mono ?_
                rintro e w3 ⟨⟨cc, rfl⟩, S', hq3, hS3, hk3⟩
                have hown3 : OwnI w3 w.heap.size _ fr := hk3.row (hown.drewN nq) hsep.out
                have hsep3 := Lib.hid (sep_step hsep.out (hown.drewN nq) hS3)
                have hb3 : Below w.heap.size w w3 := hk3.to_below (fun b hb => (hq.in_ b hb).1) (belowD hbr nq) hbr.size
                have hsz3 := hb3.size
                clear HA hq hq' hown hsep hS3 hk3
                go_wp2_with (at_builtin; refine wpList_push_int rfl _ _ rfl (base := w.heap.size) (v := u12) rfl (hown3.next ((Below.refl _ w3).alloc (Nat.le_refl _) _)) w3.heap.size (k : Int) rfl (cell_of_row _ _ 0 _ _ _ (heap_alloc_new w3 _)) (by omega) (by simp; omega) ?_; intro v2 w4 ho4 hg4 hv4 hbl4)
                have hb4 := hbl4 _ (hb3.alloc hsz3 _)
                have hq4 : QAt w.heap.size w4 w.heap.size S' (q ++ [m]) := (hq3.below ((Below.refl _ w3).alloc (Nat.le_refl _) (.cells #[.int .i64 (k : Int)] 3))).keep hg4.size (fun b hb => hg4.block b (by have := (hq3.in_ b hb).2; simp; omega) (fun e => hsep3.out b e.symm hb))
                have hsep4 := Lib.hid (show ∀ g, v2.ownBlock = some g → ¬ S' g from fun g hg h' => by
                  rcases hv4 with e | e
                  · exact hsep3.out g (by rw [← e]; exact hg) h'
                  · rw [hg] at e
                    injection e with e
                    have := (hq3.in_ g h').2
                    simp at e; omega)
                refine ⟨⟨m + 1, _, _, _, S', ?ya, ?yb, Hbf, Hno2, hlt2, Hxe2, hq4, ho4, hsep4, hb4⟩, ?yd⟩
                case ya => omega
                case yb => go_num
                case yd => simp [intOf]; omega
          · obtain rfl : m = n := by omega
            have Hbf := Lib.hid (hbf.out.next (fun y hy h => by have := HE.out _ _ h; omega))
            clear hbf Hxe
            go_wp2_with fail
            refine ⟨⟨k + 1, q, fr, ps, S, ?ya, ?yb, Hbf, hno, hq, hown, hsep, hbr⟩, ?yd⟩
            case ya => omega
            case yb => go_num
            case yd => simp [intOf]; omega
    · obtain rfl : k = q.length := by omega
      have Hnone := Lib.hid (fun p' x' hwy => hbf.out.none (good := gGood L kb over) hno.out (p := p') (x := x') hwy)
      clear hbf hno hq hown hsep
      generalize q.length = m at *
      go_wp2_with (first | (go_at_call 63; with_reducible refine HQL.out.mono ?_; rintro e w' ⟨rfl, rfl⟩))
      go_ret2
      exact ⟨.inr ⟨rfl, Hnone.out⟩, hbr⟩

theorem firstC_pred {p : Nat → Prop} (h0 : p 0) {f : Nat → Nat} (hf : ∀ i, p (f i)) : ∀ m i, p (firstC f m i)
  | 0, _ => h0
  | m + 1, i => by
    rw [firstC]
    split
    · exact firstC_pred h0 hf m (i + 1)
    · exact hf i
theorem rows_ne5 {L : List (List Int)} (m i : Nat) : firstC (gRows L) m i ≠ 5 := firstC_pred (p := fun x => x ≠ 5) (by decide) (fun i => by
  unfold gRows gRowF
  split
  · decide
  · refine firstC_pred (p := fun x => x ≠ 5) (by decide) (fun j => ?_) _ _
    unfold gCellF cellF
    split
    · decide
    · split <;> decide) m i
def askCode (L : List (List Int)) (right who over : Int) : Nat :=
  if gCode L ≠ 0 then gCode L else if ¬ (0 ≤ who ∧ who < L.length) ∨ ¬ (0 ≤ over ∧ over < L.length) ∨ ¬ (right = 1 ∨ right = 2 ∨ right = 4) then 1 else if who = over then 3 else 0
theorem cnt_few : ∀ r : Nat, r ≤ 4 → ¬ (r = 1 ∨ r = 2 ∨ r = 4) → cnt 8 r ≠ 1 := by decide
theorem askCode_zero {L : List (List Int)} {right who over : Int} (h : askCode L right who over = 0) : ∃ wn on kb : Nat, GOk L ∧ who = wn ∧ over = on ∧ right = ((2 ^ kb : Nat) : Int) ∧ kb < 3 ∧ wn < L.length ∧ on < L.length ∧ wn ≠ on := by
  unfold askCode at h
  split at h
  · rename_i h1; exact absurd h h1
  · rename_i h1
    split at h
    · cases h
    · rename_i h2
      split at h
      · cases h
      · rename_i h3
        have h4 : (0 ≤ who ∧ who < L.length) ∧ (0 ≤ over ∧ over < L.length) ∧ (right = 1 ∨ right = 2 ∨ right = 4) := by
          refine ⟨Classical.byContradiction fun e => h2 (.inl e), Classical.byContradiction fun e => h2 (.inr (.inl e)), Classical.byContradiction fun e => h2 (.inr (.inr e))⟩
        obtain ⟨h5, h6, h7⟩ := h4
        have hg := gOk (Classical.not_not.1 h1)
        rcases h7 with rfl | rfl | rfl
        · exact ⟨who.toNat, over.toNat, 0, hg, by omega, by omega, by decide, by omega, by omega, by omega, by omega⟩
        · exact ⟨who.toNat, over.toNat, 1, hg, by omega, by omega, by decide, by omega, by omega, by omega, by omega⟩
        · exact ⟨who.toNat, over.toNat, 2, hg, by omega, by omega, by decide, by omega, by omega, by omega, by omega⟩
set_option maxHeartbeats 4000000 in
theorem Chain_bad {w : World} {A : Option Addr} {c n : Nat} {L : List (List Int)} (hL : RowsIn anyB 1 w A L) (hn : L.length = n) (nm : n ≤ maxLen) {right who over : Int} (hb : I64 right ∧ I64 who ∧ I64 over) (hz : askCode L right who over ≠ 0) :
    Calls Tryd.prog 40 #[.slice A n c, .int .i64 right, .int .i64 who, .int .i64 over] w fun e w' => e = .returned (.tuple #[.slice none 0 0, .iface 59 (.int .i64 (askCode L right who over))]) ∧ Below w.heap.size w w' := by
  have HC := TCheck_any (c := c) hL hn nm
  have nm2 : n ≤ 9223372036854775807 := by unfold maxLen at nm; omega
  by_cases h1 : gCode L = 0
  · rw [h1, errVal_zero] at HC
    have HC := Lib.hid HC
    have hg := gOk h1
    have hn20 : n ≤ 20 := by have := hg.few; omega
    by_cases h2 : (0 ≤ who ∧ who < n) ∧ (0 ≤ over ∧ over < n) ∧ (right = 1 ∨ right = 2 ∨ right = 4)
    · have h3 : who = over := Classical.byContradiction fun e => hz (by unfold askCode; rw [if_neg (fun h => h h1), if_neg (by rw [hn]; intro h; rcases h with h | h | h; exact h h2.1; exact h h2.2.1; exact h h2.2.2), if_neg e])
      have Hr := Lib.hid (show askCode L right who over = 3 by unfold askCode; rw [if_neg (fun h => h h1), if_neg (by rw [hn]; intro h; rcases h with h | h | h; exact h h2.1; exact h h2.2.1; exact h h2.2.2), if_pos h3])
      subst h3
      have W1 := Lib.hid (fun V => Within3_is who 0 ((n : Int) - 1) true V (decide_eq_true (by omega)))
      obtain ⟨kb, hkb, rfl⟩ : ∃ kb : Nat, kb < 3 ∧ right = ((2 ^ kb : Nat) : Int) := by
        rcases h2.2.2 with rfl | rfl | rfl
        · exact ⟨0, by omega, by decide⟩
        · exact ⟨1, by omega, by decide⟩
        · exact ⟨2, by omega, by decide⟩
      have hp4 : 2 ^ kb = 1 ∨ 2 ^ kb = 2 ∨ 2 ^ kb = 4 := by
        have : kb = 0 ∨ kb = 1 ∨ kb = 2 := by omega
        rcases this with rfl | rfl | rfl <;> simp
      have W3 := Lib.hid (fun V => Within3_is ((2 ^ kb : Nat) : Int) 0 4 true V (decide_eq_true (by omega)))
      have M1 := fun V => CMany_any (2 ^ kb) (by omega) V
      rw [cnt_pow kb hkb] at M1
      have M1 := Lib.hid M1
      rw [Hr.out]
      have dw : (who == who) = true := by simp
      generalize 2 ^ kb = r at *
      clear h2 hp4 hL hg hz h1 Hr
      go_enter Tryd.func40, Tryd.ntmps40
      go_wp2_with (first | (go_at_call 8; with_reducible refine HC.out.mono ?_; rintro e w' ⟨rfl, rfl⟩) | (go_at_call 31; first | (with_reducible refine (W1.out _).mono ?_; rintro e w' ⟨rfl, rfl⟩) | (with_reducible refine (W3.out _).mono ?_; rintro e w' ⟨rfl, rfl⟩)) | (go_at_call 52; with_reducible refine (M1.out _).mono ?_; rintro e w' ⟨rfl, rfl⟩))
      go_ret2
      exact ⟨rfl, Below.refl _ _⟩
    · have Hr := Lib.hid (show askCode L right who over = 1 by unfold askCode; rw [if_neg (fun h => h h1), if_pos (by rw [hn]; exact Classical.byContradiction fun h => h2 ⟨Classical.byContradiction fun e => h (.inl e), Classical.byContradiction fun e => h (.inr (.inl e)), Classical.byContradiction fun e => h (.inr (.inr e))⟩)])
      rw [Hr.out]
      clear Hr hz hL hg
      by_cases h3 : 0 ≤ who ∧ who < n
      · have W1 := Lib.hid (fun V => Within3_is who 0 ((n : Int) - 1) true V (decide_eq_true (by omega)))
        by_cases h4 : 0 ≤ over ∧ over < n
        · have W2 := Lib.hid (fun V => Within3_is over 0 ((n : Int) - 1) true V (decide_eq_true (by omega)))
          by_cases h5 : 0 ≤ right ∧ right ≤ 4
          · obtain ⟨r, rfl⟩ := Int.eq_ofNat_of_zero_le h5.1
            have W3 := Lib.hid (fun V => Within3_is (r : Int) 0 4 true V (decide_eq_true (by omega)))
            have M1 := Lib.hid (fun V => CMany_any r (by omega) V)
            have hcn : cnt 8 r ≠ 1 := cnt_few r (by omega) (fun h => h2 ⟨h3, h4, by omega⟩)
            have dc : (((cnt 8 r : Nat) : Int) != 1) = true := by simpa using by omega
            generalize cnt 8 r = cr at *
            clear h2 h3 h4 h5 h1 hcn
            go_enter Tryd.func40, Tryd.ntmps40
            go_wp2_with (first | (go_at_call 8; with_reducible refine HC.out.mono ?_; rintro e w' ⟨rfl, rfl⟩) | (go_at_call 31; first | (with_reducible refine (W1.out _).mono ?_; rintro e w' ⟨rfl, rfl⟩) | (with_reducible refine (W2.out _).mono ?_; rintro e w' ⟨rfl, rfl⟩) | (with_reducible refine (W3.out _).mono ?_; rintro e w' ⟨rfl, rfl⟩)) | (go_at_call 52; with_reducible refine (M1.out _).mono ?_; rintro e w' ⟨rfl, rfl⟩))
            go_ret2
            exact ⟨rfl, Below.refl _ _⟩
          · have W3 := Lib.hid (fun V => Within3_is right 0 4 false V (decide_eq_false h5))
            clear h2 h3 h4 h5 h1
            go_enter Tryd.func40, Tryd.ntmps40
            go_wp2_with (first | (go_at_call 8; with_reducible refine HC.out.mono ?_; rintro e w' ⟨rfl, rfl⟩) | (go_at_call 31; first | (with_reducible refine (W1.out _).mono ?_; rintro e w' ⟨rfl, rfl⟩) | (with_reducible refine (W2.out _).mono ?_; rintro e w' ⟨rfl, rfl⟩) | (with_reducible refine (W3.out _).mono ?_; rintro e w' ⟨rfl, rfl⟩)))
            go_ret2
            exact ⟨rfl, Below.refl _ _⟩
        · have W2 := Lib.hid (fun V => Within3_is over 0 ((n : Int) - 1) false V (decide_eq_false (by omega)))
          clear h2 h3 h4 h1
          go_enter Tryd.func40, Tryd.ntmps40
          go_wp2_with (first | (go_at_call 8; with_reducible refine HC.out.mono ?_; rintro e w' ⟨rfl, rfl⟩) | (go_at_call 31; first | (with_reducible refine (W1.out _).mono ?_; rintro e w' ⟨rfl, rfl⟩) | (with_reducible refine (W2.out _).mono ?_; rintro e w' ⟨rfl, rfl⟩)))
          go_ret2
          exact ⟨rfl, Below.refl _ _⟩
      · have W1 := Lib.hid (fun V => Within3_is who 0 ((n : Int) - 1) false V (decide_eq_false (by omega)))
        clear h2 h3 h1
        go_enter Tryd.func40, Tryd.ntmps40
        go_wp2_with (first | (go_at_call 8; with_reducible refine HC.out.mono ?_; rintro e w' ⟨rfl, rfl⟩) | (go_at_call 31; (with_reducible refine (W1.out _).mono ?_; rintro e w' ⟨rfl, rfl⟩)))
        go_ret2
        exact ⟨rfl, Below.refl _ _⟩
  · have Hr := Lib.hid (show askCode L right who over = gCode L by unfold askCode; rw [if_pos h1])
    rw [Hr.out]
    rw [errVal_pos h1] at HC
    have HC := Lib.hid HC
    generalize gCode L = code at *
    clear hz Hr hL
    go_enter Tryd.func40, Tryd.ntmps40
    go_wp2_with (go_at_call 8; with_reducible refine HC.out.mono ?_; rintro e w' ⟨rfl, rfl⟩)
    go_ret2
    exact ⟨rfl, Below.refl _ _⟩

theorem errno_comp : (Tryd.prog.info? 59).map (·.comparable) = some true := by kernel_rfl
/-- Whether one can. -/
def gCan (L : List (List Int)) (kb who over : Nat) : Prop := ∃ p x, WayTo (gE L) who p x ∧ gGood L kb over x
open Classical in
set_option maxHeartbeats 2000000 in
theorem Can_ok {w : World} {A : Option Addr} {c n : Nat} {L : List (List Int)} (hL : RowsIn anyB 1 w A L) (hn : L.length = n) (hg : GOk L) {kb who over : Nat} (hk : kb < 3) (hw : who < n) (ho : over < n) (hne : who ≠ over) :
    Calls Tryd.prog 15 #[.slice A n c, .int .i64 (2 ^ kb : Nat), .int .i64 who, .int .i64 over] w fun e w' => (∃ b : Bool, e = .returned (.tuple #[.bool b, .nilIface]) ∧ (b = true ↔ gCan L kb who over)) ∧ Below w.heap.size w w' := by
  have HC := Lib.hid (Chain_ok (c := c) hL hn hg hk hw ho hne)
  generalize 2 ^ kb = r at *
  clear hL
  have q1 := fun (w : World) (a b : Int) => Lib.run_eql_iface_int (P := Tryd.prog) (t := 26) (tx := 59) (k := .i64) w a b Tryd.underlying26 errno_comp Tryd.underlying59
  have q2 := fun (w : World) (v : Value) => run_eql_iface_nil_left (P := Tryd.prog) w (ti := 26) 59 v Tryd.underlying26
  go_enter Tryd.func15, Tryd.ntmps15
  go_wp2_with fail
  refine HC.out.mono ?_
  rintro e w1 ⟨hp | ⟨rfl, hno⟩, hb⟩
  · obtain ⟨p, x, A', c', rfl, _, h1, h2, _⟩ := hp
    go_wp2_with fail
    go_ret2
    exact ⟨⟨true, rfl, iff_of_true rfl ⟨p, x, h1, h2⟩⟩, hb⟩
  · go_wp2_with fail
    go_ret2
    exact ⟨⟨false, rfl, iff_of_false (by simp) (fun ⟨p, x, h1, h2⟩ => hno p x h1 h2)⟩, hb⟩
set_option maxHeartbeats 2000000 in
theorem Can_bad {w : World} {A : Option Addr} {c n : Nat} {L : List (List Int)} (hL : RowsIn anyB 1 w A L) (hn : L.length = n) (nm : n ≤ maxLen) {right who over : Int} (hb : I64 right ∧ I64 who ∧ I64 over) (hz : askCode L right who over ≠ 0) :
    Calls Tryd.prog 15 #[.slice A n c, .int .i64 right, .int .i64 who, .int .i64 over] w fun e w' => e = .returned (.tuple #[.bool false, .iface 59 (.int .i64 (askCode L right who over))]) ∧ Below w.heap.size w w' := by
  have HC := Lib.hid (Chain_bad (c := c) hL hn nm hb hz)
  have h5 : askCode L right who over ≠ 5 := by
    unfold askCode
    split
    · unfold gCode
      split
      · decide
      · exact rows_ne5 _ _
    · split
      · decide
      · split <;> decide
  generalize askCode L right who over = code at *
  have d5 : (((code : Nat) : Int) == 5) = false := by simp; omega
  clear hL
  have q1 := fun (w : World) (a b : Int) => Lib.run_eql_iface_int (P := Tryd.prog) (t := 26) (tx := 59) (k := .i64) w a b Tryd.underlying26 errno_comp Tryd.underlying59
  have q2 := fun (w : World) (v : Value) => run_eql_iface_nil_left (P := Tryd.prog) w (ti := 26) 59 v Tryd.underlying26
  go_enter Tryd.func15, Tryd.ntmps15
  go_wp2_with fail
  refine HC.out.mono ?_
  rintro e w1 ⟨rfl, hb⟩
  go_wp2_with fail
  go_ret2
  exact ⟨rfl, hb⟩
end Go.Proofs.YtpfmllpodjcldaaDoor
