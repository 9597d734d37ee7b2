/-
  Contracts: the document's Names, above, From.
-/
import Derived.Test.YthaaekpnemhjoaaDoorPrA
import Derived.Test.YthaaekpnemhjoaaDoorPgB
import Derived.Test.YthaaekpnemhjoaaDoorSets
import Derived.Test.YthaaekpnemhjoaaDoorEither
import Derived.Test.YthaaekpnemhjoaaDoorBibaLaw
import Derived.Test.YthaaekpnemhjoaaDoorFlowB
import Derived.Test.YthaaekpnemhjoaaDoorRefC
import Derived.Test.YthaaekpnemhjoaaDoorStillD
namespace Go.Proofs.YthaaekpnemhjoaaDoor
open Go.RowKit Go.Shelf
set_option maxRecDepth 100000
set_option linter.unusedVariables false

set_option maxHeartbeats 2000000 in
theorem RNames_any {P : List Int} {n : Nat} {A : Option Addr} {c : Nat} {i : Nat} {e : Ex} (he : IsEx P i e) (hi : i < n) : ∀ (w : World), NodesAt w A P n →
    Calls Tryd.prog 44 #[.slice A n c, .int .i64 i] w fun r w' => r = .returned (.int .i64 (e.names : Nat)) ∧ Below w.heap.size w w' := by
  induction he with
  | @num i m h0 h1 h2 =>
    intro w h
    obtain ⟨b, off, rfl, p0, p1, p2, p3, p4⟩ := h.cells hi
    rw [h0] at p0
    rw [h1] at p1
    have HP := Lib.hid (RParts_any 0 m (nd P i 2) (nd P i 3) (nd P i 4) w)
    rw [show partsL 0 (nd P i 2) (nd P i 3) (nd P i 4) = [] from rfl] at HP
    clear h h0 h1 h2
    go_enter Tryd.func44, Tryd.ntmps44
    go_wp2_with fail
    with_reducible refine HP.out.mono ?_
    rintro r w1 ⟨X, cx, rfl, -, hb, -⟩
    go_wp2_with fail
    go_loopw [5, 7] (fun s j wr => s = .int .i64 0 ∧ j = .int .i64 0 ∧ wr = w1) (fun s j _ => 0)
    case atStart => exact ⟨rfl, rfl, rfl⟩
    case round =>
      obtain ⟨rfl, rfl, rfl⟩ := hrel
      go_wp2_with fail
      go_ret
      exact ⟨rfl, hb⟩
  | @var i m h0 h1 h2 =>
    intro w h
    obtain ⟨b, off, rfl, p0, p1, p2, p3, p4⟩ := h.cells hi
    rw [h0] at p0
    rw [h1] at p1
    have H := Lib.hid (fun V => Pow2_any m V (by omega))
    clear h
    go_enter Tryd.func44, Tryd.ntmps44
    go_wp2_with (go_at_call 57; with_reducible refine (H.out _).mono ?_; rintro r w' ⟨rfl, rfl⟩)
    go_ret
    exact ⟨rfl, Below.refl _ _⟩
  | @op i k a b x y hk2 hk4 h0 h2 h3 ha hb hx hy iha ihb =>
    intro w h
    obtain ⟨bb, off, rfl, p0, p1, p2, p3, p4⟩ := h.cells hi
    rw [h0] at p0
    rw [h2] at p2
    rw [h3] at p3
    have HP := Lib.hid (RParts_any k (nd P i 1) a b (nd P i 4) w)
    have hpl : partsL (k : Int) a b (nd P i 4) = [(a : Int), (b : Int)] := parts_two (by omega)
    rw [hpl] at HP
    have dk : ((k : Int) == 1) = false := by simp; omega
    have lx := Ex.names_lt hx.ok
    have ly := Ex.names_lt hy.ok
    have Ho := Lib.hid (fun V => Either_any x.names y.names V (by omega) (by omega))
    have Ho0 := Lib.hid (show ∀ V, Calls Tryd.prog 46 #[.int .i64 0, .int .i64 x.names] V fun e w' => e = .returned (.int .i64 (x.names : Nat)) ∧ V = w' from fun V => (Either_any 0 x.names V (by omega) (by omega)).mono fun e w' h => by rw [Nat.zero_or] at h; exact h)
    have Hx := Lib.hid (fun w1 (hb : Below w.heap.size w w1) V (hV : Below w1.heap.size w1 V) => (iha (by omega) V ((h.below (B := 0) hb).below (B := 0) hV)).mono fun r w' ⟨he, hx⟩ => (⟨he, hV.trans (hx.mono hV.size)⟩ : _ ∧ Below w1.heap.size w1 w'))
    have Hy := Lib.hid (fun w1 (hb : Below w.heap.size w w1) V (hV : Below w1.heap.size w1 V) => (ihb (by omega) V ((h.below (B := 0) hb).below (B := 0) hV)).mono fun r w' ⟨he, hx⟩ => (⟨he, hV.trans (hx.mono hV.size)⟩ : _ ∧ Below w1.heap.size w1 w'))
    clear h iha ihb hx hy h0 h2 h3 ha hb
    generalize hxn : x.names = xn at *
    generalize hyn : y.names = yn at *
    have Hr := Lib.hid (show (Ex.op k x y).names = xn ||| yn by rw [Ex.names, hxn, hyn])
    generalize (Ex.op k x y).names = rn at *
    clear hxn hyn hpl
    go_enter Tryd.func44, Tryd.ntmps44
    go_wp2_with (go_at_call 42; with_reducible refine HP.out.mono ?_; rintro r w1 ⟨X, cx, rfl, hX, hb, -⟩)
    have Hx1 := Lib.hid (Hx.out w1 hb)
    have Hy1 := Lib.hid (Hy.out w1 hb)
    clear Hx Hy
    obtain ⟨bx, ox, rfl, hc⟩ := hX (by simp)
    have q0 : w1.cell? ⟨bx, ox, none⟩ = some (.int .i64 (a : Nat)) := hc 0 _ rfl
    have q1 : w1.cell? ⟨bx, ox + 1, none⟩ = some (.int .i64 (b : Nat)) := hc 1 _ rfl
    have hbx := block_lt q0
    have hs1 := hb.size
    clear hc hX HP
    go_loopw [5, 7] (fun s j wr => ∃ k : Nat, k ≤ 2 ∧ j = .int .i64 k ∧ s = .int .i64 ((if k = 0 then 0 else if k = 1 then xn else xn ||| yn : Nat) : Nat) ∧ Below w1.heap.size w1 wr) (fun s j _ => 2 - (intOf j).toNat)
    case atStart => exact ⟨0, by omega, rfl, rfl, Below.refl _ _⟩
    case round =>
      obtain ⟨k, hk, rfl, rfl, hbr⟩ := hrel
      have hbw := hb.trans (hbr.mono hs1)
      have r0 := (hbr.cell (p := ⟨bx, ox, none⟩) hbx).trans q0
      have r1 := (hbr.cell (p := ⟨bx, ox + 1, none⟩) hbx).trans q1
      have hc3 : k = 0 ∨ k = 1 ∨ k = 2 := by omega
      rcases hc3 with rfl | rfl | rfl
      · go_wp2_with (first | (go_at_call 44; with_reducible refine (Hx1.out _ (by assumption)).mono ?_; rintro r w2 ⟨rfl, hb2⟩) | (go_at_call 46; with_reducible refine (Ho0.out _).mono ?_; rintro r w' ⟨rfl, rfl⟩))
        refine ⟨⟨1, by omega, rfl, ?ya, ?yb⟩, ?yc⟩
        case ya => simp
        case yb => exact hb2
        case yc => simp [intOf]
      · go_wp2_with (first | (go_at_call 44; with_reducible refine (Hy1.out _ (by assumption)).mono ?_; rintro r w2 ⟨rfl, hb2⟩) | (go_at_call 46; with_reducible refine (Ho.out _).mono ?_; rintro r w' ⟨rfl, rfl⟩))
        refine ⟨⟨2, by omega, rfl, ?ya, ?yb⟩, ?yc⟩
        case ya => simp
        case yb => exact hb2
        case yc => simp [intOf]
      · go_wp2_with fail
        go_ret
        exact ⟨by rw [Hr.out]; rfl, hbw⟩

/-- Is one a deed among the parts? -/
def sonL (l : List Int) (K i : Int) : Prop := ∃ q, q < l.length ∧ gI l q = i ∧ valB K q = false
instance (l : List Int) (K i : Int) : Decidable (sonL l K i) := by unfold sonL; infer_instance
def sonOf (P : List Int) (i : Int) (k : Nat) : Prop := sonL (partsOf P k) (nd P k 0) i
instance (P : List Int) (i : Int) (k : Nat) : Decidable (sonOf P i k) := by unfold sonOf; infer_instance
def aboveFrom (P : List Int) (i : Int) : Nat → Nat → Int
  | 0, _ => -1
  | m + 1, k => if sonOf P i k then k else aboveFrom P i m (k + 1)
/-- The node of which one is a deed. -/
def aboveN (P : List Int) (n : Nat) (i : Int) : Int := aboveFrom P i n 0

set_option maxHeartbeats 2000000 in
theorem RAbove_any {P : List Int} {n : Nat} {A : Option Addr} {c : Nat} {w : World} (i : Int) (h : NodesAt w A P n) :
    Calls Tryd.prog 45 #[.slice A n c, .int .i64 i] w fun e w' => e = .returned (.int .i64 (aboveN P n i)) ∧ Below w.heap.size w w' := by
  have hcap := h.small
  have hz := Lib.hid (show aboveN P n i = aboveFrom P i (n - 0) 0 from rfl)
  go_enter Tryd.func45, Tryd.ntmps45
  go_wp2_with fail
  go_loopw [5] (fun s wr => ∃ k : Nat, k ≤ n ∧ s = .int .i64 k ∧ Hid (aboveN P n i = aboveFrom P i (n - k) k) ∧ Below w.heap.size w wr) (fun s _ => n - (intOf s).toNat)
  case atStart => exact ⟨0, Nat.zero_le _, rfl, hz, Below.refl _ _⟩
  case round =>
    clear hz
    obtain ⟨k, hk, rfl, hz, hbr⟩ := hrel
    obtain ⟨wo, rfl⟩ : ∃ wo : World, wo = wr := ⟨_, rfl⟩
    by_cases hlt : k < n
    · obtain ⟨b, off, rfl, p0, p1, p2, p3, p4⟩ := (h.below (B := 0) hbr).cells hlt
      have Hyes := Lib.hid (fun (hs : sonL (partsL (nd P k 0) (nd P k 2) (nd P k 3) (nd P k 4)) (nd P k 0) i) => show aboveN P n i = k by
        rw [hz.out, show n - k = (n - (k + 1)) + 1 by omega, aboveFrom, if_pos (show sonOf P i k from hs)])
      have Hno := Lib.hid (fun (hs : ¬ sonL (partsL (nd P k 0) (nd P k 2) (nd P k 3) (nd P k 4)) (nd P k 0) i) => show aboveN P n i = aboveFrom P i (n - (k + 1)) (k + 1) by
        rw [hz.out, show n - k = (n - (k + 1)) + 1 by omega, aboveFrom, if_neg (show ¬ sonOf P i k from hs)])
      have HP := Lib.hid (fun V => RParts_any (nd P k 0) (nd P k 1) (nd P k 2) (nd P k 3) (nd P k 4) V)
      clear h hz
      have hki : (k : Int) < n := by omega
      have hbw := block_lt p0
      generalize nd P k 0 = K at *
      generalize nd P k 1 = N at *
      generalize nd P k 2 = x2 at *
      generalize nd P k 3 = x3 at *
      generalize nd P k 4 = x4 at *
      have hlen3 : (partsL K x2 x3 x4).length ≤ 3 := by unfold partsL; split; simp; split; simp; split; simp; simp
      generalize partsL K x2 x3 x4 = l at *
      go_wp2_with fail
      with_reducible refine (HP.out _).mono ?_
      rintro e w2 ⟨X, cx, rfl, hX, hb2, hXf⟩
      have q0 := (hb2.cell (p := ⟨b, off + k * 5, none⟩) hbw).trans p0
      have hbr2 := hbr.trans (hb2.mono hbr.size)
      clear HP p0 p1 p2 p3 p4 hb2 hbr hXf
      go_wp2_with fail
      go_loopw [7] (fun j wi => ∃ q : Nat, q ≤ l.length ∧ j = .int .i64 q ∧ Hid (∀ q', q' < q → ¬ (gI l q' = i ∧ valB K q' = false)) ∧ w2 = wi) (fun j _ => l.length - (intOf j).toNat)
      case atStart => exact ⟨0, Nat.zero_le _, rfl, Lib.hid (fun q' h => absurd h (Nat.not_lt_zero _)), rfl⟩
      case round =>
        obtain ⟨q, hq, rfl, hn, rfl⟩ := hrel
        by_cases hql : q < l.length
        · obtain ⟨bx, ox, a, rfl, ha, hca⟩ := hX.at_ hql
          have hqi : (q : Int) < l.length := by omega
          have Hga := Lib.hid (show gI l q = a from gI_of ha.out)
          by_cases hai : a = i
          · subst hai
            cases hv : valB K q with
            | true =>
              have HA := Lib.hid (fun V => rvalue_is K q true V hv)
              have Hn2 := Lib.hid (show ∀ q', q' < q + 1 → ¬ (gI l q' = a ∧ valB K q' = false) from fun q' h hh => by
                rcases Nat.lt_or_ge q' q with h1 | h1
                · exact hn.out q' h1 hh
                · obtain rfl : q' = q := by omega
                  rw [hv] at hh; exact absurd hh.2 (by decide))
              clear hn hv ha Hga
              go_wp2_with (go_at_call 43; with_reducible refine (HA.out _).mono ?_; rintro e w' ⟨rfl, rfl⟩)
              refine ⟨⟨q + 1, ?za, ?zb, Hn2, trivial⟩, ?zd⟩
              case za => omega
              case zb => go_num
              case zd => simp [intOf]; omega
            | false =>
              have HA := Lib.hid (fun V => rvalue_is K q false V hv)
              have Hr := Lib.hid (Hyes.out ⟨q, hql, Hga.out, hv⟩)
              clear hn hv ha Hga
              go_wp2_with (go_at_call 43; with_reducible refine (HA.out _).mono ?_; rintro e w' ⟨rfl, rfl⟩)
              go_ret
              exact ⟨by rw [Hr.out]; rfl, hbr2⟩
          · have dai : (a == i) = false := by simpa using hai
            have Hn2 := Lib.hid (show ∀ q', q' < q + 1 → ¬ (gI l q' = i ∧ valB K q' = false) from fun q' h hh => by
                rcases Nat.lt_or_ge q' q with h1 | h1
                · exact hn.out q' h1 hh
                · obtain rfl : q' = q := by omega
                  rw [Hga.out] at hh; exact hai hh.1)
            clear hn ha Hga
            go_wp2_with fail
            refine ⟨⟨q + 1, ?za, ?zb, Hn2, trivial⟩, ?zd⟩
            case za => omega
            case zb => go_num
            case zd => simp [intOf]; omega
        · obtain rfl : q = l.length := by omega
          have Hr := Lib.hid (Hno.out (fun ⟨q', h1, h2⟩ => hn.out q' h1 h2))
          clear hn hX
          go_wp2_with fail
          refine ⟨⟨k + 1, ?za, ?zb, Hr, ?zc⟩, ?zd⟩
          case za => omega
          case zb => go_num
          case zc => exact hbr2
          case zd => simp [intOf]; omega
    · obtain rfl : k = n := by omega
      have Hr := Lib.hid (show aboveN P k i = -1 by rw [hz.out, Nat.sub_self]; rfl)
      clear h hz
      go_wp2_with fail
      go_ret
      exact ⟨by rw [Hr.out]; rfl, hbr⟩

/-- The names of a value, by its nodes. -/
def nmF (P : List Int) : Nat → Nat → Nat
  | 0, _ => 0
  | f + 1, i => if nd P i 0 = 1 then 2 ^ (nd P i 1).toNat else if 2 ≤ nd P i 0 ∧ nd P i 0 ≤ 4 then nmF P f (nd P i 2).toNat ||| nmF P f (nd P i 3).toNat else 0
def nmOf (P : List Int) (i : Nat) : Nat := nmF P (i + 1) i
theorem nmF_names {P : List Int} {i : Nat} {e : Ex} (h : IsEx P i e) : ∀ {f : Nat}, i < f → nmF P f i = e.names := by
  induction h with
  | num h0 h1 h2 =>
    intro f hf
    obtain ⟨f, rfl⟩ : ∃ g, f = g + 1 := ⟨f - 1, by omega⟩
    rw [nmF, if_neg (by omega), if_neg (by omega)]; rfl
  | var h0 h1 h2 =>
    intro f hf
    obtain ⟨f, rfl⟩ : ∃ g, f = g + 1 := ⟨f - 1, by omega⟩
    rw [nmF, if_pos h0, h1]; rfl
  | op k2 k4 h0 h2 h3 la lb ha hb iha ihb =>
    intro f hf
    obtain ⟨f, rfl⟩ : ∃ g, f = g + 1 := ⟨f - 1, by omega⟩
    rw [nmF, if_neg (by omega), if_pos (by omega), h2, h3, Int.toNat_natCast, Int.toNat_natCast, iha (by omega), ihb (by omega)]; rfl
theorem nmOf_names {P : List Int} {i : Nat} {e : Ex} (h : IsEx P i e) : nmOf P i = e.names := nmF_names h (by omega)

/-- What flows into a setting from those above it. -/
def upS (P : List Int) (n : Nat) : Nat → Int → Nat → Nat
  | 0, _, s => s
  | f + 1, k, s => if 0 ≤ k then upS P n f (aboveN P n k) (if nd P k.toNat 0 = 8 ∨ nd P k.toNat 0 = 9 then s ||| nmOf P (nd P k.toNat 2).toNat else s) else s
def setOf (P : List Int) (n i : Nat) : Nat := upS P n n (aboveN P n i) (nmOf P (nd P i 2).toNat)
def flatSets (P : List Int) (n : Nat) : Nat → List (Nat × Nat)
  | 0 => []
  | k + 1 => if nd P k 0 = 6 then flatSets P n k ++ [((nd P k 1).toNat, setOf P n k)] else flatSets P n k

theorem aboveFrom_cases {P : List Int} {i : Int} : ∀ (m k : Nat), (aboveFrom P i m k = -1 ∧ ∀ j, k ≤ j → j < k + m → ¬ sonOf P i j) ∨ ∃ j, k ≤ j ∧ j < k + m ∧ aboveFrom P i m k = j ∧ sonOf P i j
  | 0, k => .inl ⟨rfl, fun j h1 h2 => by omega⟩
  | m + 1, k => by
    rw [aboveFrom]
    by_cases h : sonOf P i k
    · rw [if_pos h]; exact .inr ⟨k, Nat.le_refl _, by omega, rfl, h⟩
    · rw [if_neg h]
      rcases aboveFrom_cases (P := P) (i := i) m (k + 1) with ⟨h1, h2⟩ | ⟨j, h1, h2, h3⟩
      · refine .inl ⟨h1, fun j hj hj2 => ?_⟩
        rcases Nat.eq_or_lt_of_le hj with e | e
        · subst e; exact h
        · exact h2 j e (by omega)
      · exact .inr ⟨j, by omega, by omega, h3⟩
theorem aboveN_cases (P : List Int) (n : Nat) (i : Int) : (aboveN P n i = -1 ∧ ∀ j, j < n → ¬ sonOf P i j) ∨ ∃ j : Nat, j < n ∧ aboveN P n i = j ∧ sonOf P i j := by
  rcases aboveFrom_cases (P := P) (i := i) n 0 with ⟨h1, h2⟩ | ⟨j, h1, h2, h3⟩
  · exact .inl ⟨h1, fun j hj => h2 j (Nat.zero_le _) (by omega)⟩
  · exact .inr ⟨j, by omega, h3⟩
theorem son_lt {P : List Int} {i : Int} {k : Nat} (h : NodeOk P k) (hs : sonOf P i k) : 0 ≤ i ∧ i < k := by
  obtain ⟨q, hq, hi, _⟩ := hs
  have := (h.parts q i (by rw [List.getElem?_eq_getElem hq]; rw [← hi]; unfold gI; rw [List.getD_eq_getElem?_getD, List.getElem?_eq_getElem hq]; rfl)).1
  exact this
/-- The value of a Set, an If, a While. -/
theorem child_ex {P : List Int} {n : Nat} (h : ∀ i, i < n → NodeOk P i) {i : Nat} (hi : i < n) (hk : nd P i 0 = 6 ∨ nd P i 0 = 8 ∨ nd P i 0 = 9) : ∃ (a : Nat) (e : Ex), nd P i 2 = a ∧ a < n ∧ IsEx P a e := by
  obtain ⟨s, hs⟩ := (trees h i hi).2 (by omega)
  cases hs with
  | skip e => omega
  | set h0 h1 h2 h3 h4 h5 => exact ⟨_, _, h3, by omega, h5⟩
  | both h0 => omega
  | ite h0 h1 h2 h3 h4 h5 h6 h7 => exact ⟨_, _, h1, by omega, h7⟩
  | loop h0 h1 h2 h3 h4 h5 => exact ⟨_, _, h1, by omega, h5⟩
theorem nmOf_lt {P : List Int} {a : Nat} {e : Ex} (h : IsEx P a e) : nmOf P a < 64 := by rw [nmOf_names h]; exact Ex.names_lt h.ok
theorem upS_lt {P : List Int} {n : Nat} (h : ∀ i, i < n → NodeOk P i) : ∀ (f : Nat) (k : Int) (s : Nat), s < 64 → (k < n) → upS P n f k s < 64
  | 0, k, s, hs, _ => hs
  | f + 1, k, s, hs, hk => by
    rw [upS]
    split
    · rename_i h0
      refine upS_lt h f _ _ ?_ ?_
      · split
        · rename_i hk8
          obtain ⟨a, e, h2, ha, he⟩ := child_ex h (i := k.toNat) (by omega) (.inr hk8)
          rw [h2, Int.toNat_natCast]
          exact Nat.or_lt_two_pow (n := 6) hs (nmOf_lt he)
        · exact hs
      · rcases aboveN_cases P n k with ⟨e, _⟩ | ⟨j, hj, e, _⟩ <;> omega
    · exact hs
theorem setOf_lt {P : List Int} {n : Nat} (h : ∀ i, i < n → NodeOk P i) {i : Nat} (hi : i < n) (h6 : nd P i 0 = 6) : setOf P n i < 64 := by
  obtain ⟨a, e, h2, ha, he⟩ := child_ex h hi (.inl h6)
  unfold setOf
  rw [h2, Int.toNat_natCast]
  refine upS_lt h n _ _ (nmOf_lt he) ?_
  rcases aboveN_cases P n i with ⟨e, _⟩ | ⟨j, hj, e, _⟩ <;> omega
theorem flatSets_ok {P : List Int} {n : Nat} (h : ∀ i, i < n → NodeOk P i) : ∀ k, k ≤ n → ∀ p ∈ flatSets P n k, p.1 < 6 ∧ p.2 < 64
  | 0, _, p, hp => by cases hp
  | k + 1, hk, p, hp => by
    rw [flatSets] at hp
    split at hp
    · rename_i h6
      rcases List.mem_append.1 hp with hp | hp
      · exact flatSets_ok h k (by omega) p hp
      · obtain rfl := List.mem_singleton.1 hp
        have := (h k (by omega)).var (.inr h6)
        exact ⟨by show (nd P k 1).toNat < 6; omega, setOf_lt h (by omega) h6⟩
    · exact flatSets_ok h k (by omega) p hp

def rowsFlat (P : List Int) (n : Nat) : List Nat := closed (rowsOf (flatSets P n n))
/-- Which measure a node has on the way up. -/
def upM (n : Nat) (v : Value) : Nat := if intOf v < 0 then 0 else n - (intOf v).toNat

theorem upM_nat (n j : Nat) : upM n (.int .i64 (j : Nat)) = n - j := by
  unfold upM
  rw [show intOf (.int .i64 (j : Nat)) = (j : Int) from rfl, if_neg (by omega), Int.toNat_natCast]
theorem upM_neg (n : Nat) : upM n (.int .i64 (-1)) = 0 := by
  unfold upM
  rw [show intOf (.int .i64 (-1)) = (-1 : Int) from rfl, if_pos (by omega)]

set_option maxHeartbeats 4000000 in
theorem RFrom_any {P : List Int} {n : Nat} {A : Option Addr} {c : Nat} {w : World} (h : NodesAt w A P n) (hok : ∀ i, i < n → NodeOk P i) :
    Calls Tryd.prog 22 #[.slice A n c] w fun e w' => ∃ B c', e = .returned (.slice B 6 c') ∧ IntsAt w' B (castL (rowsFlat P n)) ∧ Below w.heap.size w w' := by
  have hmk := fun V : World => (show (Instr.makeSlice 23 (.int .i64 6) (.int .i64 6)).run Tryd.prog V = .ok (.slice (some ⟨V.heap.size, 0, none⟩) 6 6) (V.alloc (.cells (madeCells #[Value.int .i64 0] 6) 3)) by
    obtain ⟨ti, hi, hz0, hz1, hz2⟩ := info_parts intInfo
    have := run_make (P := Tryd.prog) (w := V) 23 3 ti _ Tryd.underlying23 hi hz0 .i64 .i64 6 6 (by omega) (Int.le_refl _) (by rw [hz2]; omega) (by omega)
    rw [hz1] at this
    exact this)
  have hcap := h.small
  have Hlt := Lib.hid (fun k (hk : k ≤ n) => flatSets_ok hok k hk)
  have Hcell := Lib.hid (fun (V : World) (hV : Below w.heap.size w V) (i : Nat) (hi : i < n) => (h.below (B := 0) hV).cells hi)
  have Hnm := Lib.hid (fun (i : Nat) (hi : i < n) (hk : nd P i 0 = 6 ∨ nd P i 0 = 8 ∨ nd P i 0 = 9) => show ∃ a : Nat, nd P i 2 = a ∧ nmOf P a < 64 ∧ ∀ V, Below w.heap.size w V → Calls Tryd.prog 44 #[.slice A n c, .int .i64 a] V fun r w' => r = .returned (.int .i64 (nmOf P a : Nat)) ∧ Below w.heap.size w w' ∧ Below V.heap.size V w' from by
    obtain ⟨a, e, h2, ha, he⟩ := child_ex hok hi hk
    exact ⟨a, h2, nmOf_lt he, fun V hV => (RNames_any he ha V (h.below (B := 0) hV)).mono fun r w' ⟨h1, h3⟩ => ⟨by rw [nmOf_names he]; exact h1, hV.trans (h3.mono hV.size), h3⟩⟩)
  have Hab := Lib.hid (fun (i : Int) V (hV : Below w.heap.size w V) => (RAbove_any (c := c) i (h.below (B := 0) hV)).mono fun r w' ⟨h1, h3⟩ => (⟨h1, hV.trans (h3.mono hV.size), h3⟩ : r = Ending.returned (.int .i64 (aboveN P n i)) ∧ Below w.heap.size w w' ∧ Below V.heap.size V w'))
  have Hac := Lib.hid (fun (i : Int) (hi : 0 ≤ i) => show aboveN P n i = -1 ∨ ∃ j : Nat, j < n ∧ aboveN P n i = j ∧ i < j from by
    rcases aboveN_cases P n i with ⟨h1, _⟩ | ⟨j, h1, h2, h3⟩
    · exact .inl h1
    · exact .inr ⟨j, h1, h2, (son_lt (hok j h1) h3).2⟩)
  have Hset := Lib.hid (fun (i : Nat) => show setOf P n i = upS P n n (aboveN P n i) (nmOf P (nd P i 2).toNat) from rfl)
  have Hvar := Lib.hid (fun (i : Nat) (hi : i < n) (h6 : nd P i 0 = 6) => show ∃ x : Nat, nd P i 1 = x ∧ x < 6 from by
    have := (hok i hi).var (.inr h6)
    exact ⟨(nd P i 1).toNat, by omega, by omega⟩)
  clear h hok
  go_enter Tryd.func22, Tryd.ntmps22
  go_wp2_with fail
  have hb1 := (Below.refl w.heap.size w).alloc (Nat.le_refl _) (.cells (madeCells #[Value.int .i64 0] 6) 3)
  have ho1 : OwnAt (w.alloc (.cells (madeCells #[Value.int .i64 0] 6) 3)) w.heap.size 3 ((castL (rowsOf (flatSets P n 0))).map (Value.int .i64)) := zeros_new w 6
  have hs1 : w.heap.size < (w.alloc (.cells (madeCells #[Value.int .i64 0] 6) 3)).heap.size := by simp
  generalize w.alloc (.cells (madeCells #[Value.int .i64 0] 6) 3) = w1 at *
  clear hmk
  go_loopw [4] (fun s wr => ∃ k : Nat, k ≤ n ∧ s = .int .i64 k ∧ OwnAt wr w.heap.size 3 ((castL (rowsOf (flatSets P n k))).map (Value.int .i64)) ∧ Below w.heap.size w wr ∧ w.heap.size < wr.heap.size) (fun s _ => n - (intOf s).toNat)
  case atStart => exact ⟨0, Nat.zero_le _, rfl, ho1, hb1, hs1⟩
  case round =>
    clear ho1 hb1 hs1
    obtain ⟨k, hk, rfl, hown, hbr, hgr⟩ := hrel
    obtain ⟨wo, rfl⟩ : ∃ wo : World, wo = wr := ⟨_, rfl⟩
    by_cases hlt : k < n
    · have hki : (k : Int) < n := by omega
      have hcc := Hcell.out wo hbr k hlt
      by_cases h6 : nd P k 0 = 6
      · obtain ⟨a, h2, ha64, HN⟩ := Hnm.out k hlt (.inl h6)
        have HA := Lib.hid (HN wo hbr)
        have Hse := Lib.hid (show setOf P n k = upS P n n (aboveN P n k) (nmOf P a) by rw [Hset.out, h2, Int.toNat_natCast])
        have HAk := Lib.hid (Hab.out (k : Int))
        have Hack := Lib.hid (Hac.out (k : Int) (by omega))
        have Hf := Lib.hid (show flatSets P n (k + 1) = flatSets P n k ++ [((nd P k 1).toNat, setOf P n k)] by rw [flatSets, if_pos h6])
        have Hrl := Lib.hid (Hlt.out k hk)
        have Hrl1 := Lib.hid (Hlt.out (k + 1) hlt)
        obtain ⟨b, off, rfl, p0, p1, p2, p3, p4⟩ := hcc
        rw [h6] at p0
        rw [h2] at p2
        clear HN Hset p3 p4
        generalize setOf P n k = S at *
        generalize nmOf P a = s0 at *
        go_upto_region 8 with (first | (go_at_call 44; with_reducible refine HA.out.mono ?_; rintro r w2 ⟨rfl, hbw2, hb2⟩) | (go_at_call 45; with_reducible refine (HAk.out _ (by assumption)).mono ?_; rintro r w3 ⟨rfl, hbw3, hb3⟩))
        have hgr3 : w.heap.size < w3.heap.size := by have := hb2.size; have := hb3.size; omega
        have hown3 := (hown.all hb2).all hb3
        clear hbr hgr hown hb2 hb3 hbw2
        generalize aboveN P n k = k0 at *
        have hk0 : k0 = -1 ∨ ∃ j : Nat, j < n ∧ k0 = j ∧ n ≤ j + n := by
          rcases Hack.out with e | ⟨j, h1, h2, _⟩
          · exact .inl e
          · exact .inr ⟨j, h1, h2, by omega⟩
        clear HA HAk Hack p0 p1 p2
        go_loopw [5, 6] (fun sv kv wi => ∃ (q : Int) (s f : Nat), kv = .int .i64 q ∧ sv = .int .i64 s ∧ s < 64 ∧ Hid (S = upS P n f q s) ∧ Hid (q = -1 ∨ ∃ j : Nat, j < n ∧ q = j ∧ n ≤ j + f) ∧ Below w.heap.size w wi ∧ Below w3.heap.size w3 wi) (fun _ kv _ => upM n kv)
        case atStart => exact ⟨k0, s0, n, rfl, rfl, ha64, Hse, Lib.hid hk0, hbw3, Below.refl _ _⟩
        case round =>
          clear Hse hk0
          obtain ⟨q, s, f, rfl, rfl, hs64, Hsq, Hq, hbr, hb3r⟩ := hrel
          obtain ⟨wi, rfl⟩ : ∃ wi : World, wi = wr := ⟨_, rfl⟩
          rcases Hq.out with rfl | ⟨j, hj, rfl, hjf⟩
          · have HS := Lib.hid (show S = s by rw [Hsq.out]; cases f with | zero => rfl | succ f => rw [upS, if_neg (by omega)])
            obtain rfl := HS.out
            obtain ⟨x, hx1, hx6⟩ := Hvar.out k hlt h6
            obtain ⟨b, off, hA, p0, p1, p2, p3, p4⟩ := Hcell.out wi hbr k hlt
            injection hA with hA
            injection hA with hA1 hA2
            subst hA1; subst hA2
            rw [hx1] at p1
            rw [hx1, Int.toNat_natCast] at Hf
            have hown := hown3.all hb3r
            have hl6 := length_rowsOf (flatSets P n k)
            have hrx := rowsOf_bd Hrl.out x
            have Hf2 := Lib.hid (show castL (rowsOf (flatSets P n (k + 1))) = castL ((rowsOf (flatSets P n k)).set x (row (rowsOf (flatSets P n k)) x ||| S)) by rw [Hf.out, rowsOf_snoc])
            have gc : wi.cell? ⟨w.heap.size, x, none⟩ = some (.int .i64 (row (rowsOf (flatSets P n k)) x : Nat)) := hown.cell (get_cast_val _ x (by omega))
            have gf := hown.free x
            have CW := Lib.hid (fun V => (Either_any (row (rowsOf (flatSets P n k)) x) S V (by omega) (by omega)).mono fun e w' ⟨he, hw⟩ => (⟨he, hw.symm⟩ : _ ∧ w' = V))
            have ho10 := (hown.drewN 1).set (k := x) (by rw [List.length_map, length_castL, hl6]; exact hx6) (.int .i64 ((row (rowsOf (flatSets P n k)) x ||| S : Nat) : Int))
            rw [← map_set_cast, ← Hf2.out] at ho10
            have hb10 := (belowD hbr 1).setCell (p := ⟨w.heap.size, x, none⟩) (Nat.le_refl _) (.int .i64 ((row (rowsOf (flatSets P n k)) x ||| S : Nat) : Int))
            have hgi : w.heap.size < wi.heap.size := by have := hb3r.size; omega
            have hgs : w.heap.size < ((wi.drewN 1).setCell ⟨w.heap.size, x, none⟩ (.int .i64 ((row (rowsOf (flatSets P n k)) x ||| S : Nat) : Int))).heap.size := by simpa using hgi
            have hxi : (x : Int) < 6 := by omega
            clear Hf Hf2 Hrl Hrl1 Hnm Hac Hcell Hab Hsq HS Hq p0 p2 p3 p4 hrx hown hown3 Hlt hx1 Hvar
            generalize row (rowsOf (flatSets P n k)) x = rx at *
            go_upto_region 12 with fail
            refine wp_still_tailD 17 (by kernel_rfl) (by kernel_rfl) ?_
            simp only [List.take_succ_cons, List.take_zero, List.drop_succ_cons, List.drop_zero]
            repeat (first | still_step | still_call (CW.out _))
            refine wpStill_nil ?_
            go_wp2_with fail
            all_goals
              refine ⟨⟨k + 1, ?za, ?zb, ?zc, hb10, hgs⟩, ?zd⟩
              case za => omega
              case zb => go_num
              case zc => exact ho10
              case zd => simp [intOf]; omega
          · obtain ⟨f, rfl⟩ : ∃ g, f = g + 1 := ⟨f - 1, by omega⟩
            have Hs1 := Lib.hid (show S = upS P n f (aboveN P n j) (if nd P j 0 = 8 ∨ nd P j 0 = 9 then s ||| nmOf P (nd P j 2).toNat else s) by rw [Hsq.out, upS, if_pos (by omega), Int.toNat_natCast])
            have HAk := Lib.hid (Hab.out (j : Int))
            have hjn : (j : Int) < n := by omega
            have Hend := Lib.hid (show (aboveN P n j = -1 ∨ ∃ i : Nat, i < n ∧ aboveN P n j = i ∧ n ≤ i + f) ∧ upM n (.int .i64 (aboveN P n j)) < upM n (.int .i64 (j : Nat)) from by
              rw [upM_nat]
              rcases Hac.out (j : Int) (by omega) with e | ⟨i, h1, h2, h3⟩
              · refine ⟨.inl e, ?_⟩
                rw [e, upM_neg]
                omega
              · refine ⟨.inr ⟨i, h1, h2, by omega⟩, ?_⟩
                rw [h2, upM_nat]
                omega)
            obtain ⟨b, off, hA, p0, p1, p2, p3, p4⟩ := Hcell.out wi hbr j hj
            injection hA with hA
            injection hA with hA1 hA2
            subst hA1; subst hA2
            clear p1 p3 p4 Hsq Hq
            by_cases h89 : nd P j 0 = 8 ∨ nd P j 0 = 9
            · obtain ⟨a', h2', ha', HN⟩ := Hnm.out j hj (.inr h89)
              have HA := Lib.hid (HN wi hbr)
              rw [if_pos h89, h2', Int.toNat_natCast] at Hs1
              rw [h2'] at p2
              have HE := Lib.hid (fun V => Either_any s (nmOf P a') V (by omega) (by omega))
              have hor : s ||| nmOf P a' < 64 := Nat.or_lt_two_pow (n := 6) hs64 ha'
              clear HN Hnm Hac Hcell Hab
              generalize nmOf P a' = sa at *
              generalize hnx : aboveN P n j = nx at *
              clear hnx
              rcases h89 with e8 | e8
              all_goals
                rw [e8] at p0
                go_wp2_with (first | (go_at_call 44; with_reducible refine HA.out.mono ?_; rintro r w2 ⟨rfl, hbw2, hb2⟩) | (go_at_call 46; with_reducible refine (HE.out _).mono ?_; rintro r w' ⟨rfl, rfl⟩) | (go_at_call 45; with_reducible refine (HAk.out _ (by assumption)).mono ?_; rintro r w4 ⟨rfl, hbw4, hb4⟩))
                refine ⟨⟨nx, s ||| sa, f, rfl, rfl, hor, Hs1, Lib.hid Hend.out.1, hbw4, ?za⟩, ?zb⟩
                case za => exact (hb3r.trans (hb2.mono hb3r.size)).trans (hb4.mono (by have := hb2.size; have := hb3r.size; omega))
                case zb => exact Hend.out.2
            · rw [if_neg h89] at Hs1
              have d8 : (nd P j 0 == 8) = false := by simp; omega
              have d9 : (nd P j 0 == 9) = false := by simp; omega
              clear Hnm Hac Hcell Hab h89 p2
              generalize hnx : aboveN P n j = nx at *
              clear hnx
              generalize nd P j 0 = K at *
              go_wp2_with (go_at_call 45; with_reducible refine (HAk.out _ (by assumption)).mono ?_; rintro r w4 ⟨rfl, hbw4, hb4⟩)
              refine ⟨⟨nx, s, f, rfl, rfl, hs64, Hs1, Lib.hid Hend.out.1, hbw4, ?za⟩, ?zb⟩
              case za => exact hb3r.trans (hb4.mono hb3r.size)
              case zb => exact Hend.out.2
      · have d6 : (nd P k 0 != 6) = true := by simpa using h6
        have Hf := Lib.hid (show flatSets P n (k + 1) = flatSets P n k by rw [flatSets, if_neg h6])
        obtain ⟨b, off, rfl, p0, p1, p2, p3, p4⟩ := hcc
        clear Hset Hac Hab Hnm Hlt Hcell
        generalize nd P k 0 = K at *
        go_wp2_with fail
        refine ⟨⟨k + 1, ?za, ?zb, ?zc, hbr, hgr⟩, ?zd⟩
        case za => omega
        case zb => go_num
        case zc => rw [Hf.out]; exact hown
        case zd => simp [intOf]; omega
    · obtain rfl : k = n := by omega
      have hrb := rowsOf_bd (Hlt.out k (Nat.le_refl _))
      have HR := Lib.hid (RClosure_any (rowsOf (flatSets P k k)) (by rw [length_rowsOf]; decide) (fun i => by rw [length_rowsOf]; exact hrb i) (some ⟨w.heap.size, 0, none⟩) 6 wo hown.ints)
      rw [length_rowsOf] at HR
      clear hrb Hset Hac Hab Hnm Hlt Hcell hown
      go_wp2_with fail
      with_reducible refine HR.out.mono ?_
      rintro e w2 ⟨B, c', rfl, hi, hb2⟩
      go_wp2_with fail
      go_ret
      exact ⟨B, c', rfl, hi, hbr.trans (hb2.mono hbr.size)⟩
end Go.Proofs.YthaaekpnemhjoaaDoor
