/-
  Contracts: rel.Check, rel.closed, rel.Closure.
-/
import Derived.Test.YtdgncngkalgknaaDoorInts
import Derived.Test.YtdgncngkalgknaaDoorLeaf
import Derived.Test.YtdgncngkalgknaaDoorClose
import Derived.Test.YtdgncngkalgknaaDoorCast
import Derived.Test.YtdgncngkalgknaaDoorErr
namespace Go.Proofs.YtdgncngkalgknaaDoor
open Go.RowKit

def good (l : List Int) (x : Int) : Bool := decide (0 ≤ x ∧ x < ((2 ^ l.length : Nat) : Int))
/-- What is wrong with a relation. -/
def relCode (l : List Int) : Nat := if 12 < l.length then 4 else if l.all (good l) then 0 else 1

theorem relCode_ok {l : List Int} (h : relCode l = 0) : ∃ r : List Nat, l = castL r ∧ r.length ≤ 12 ∧ ∀ i, row r i < 2 ^ r.length := by
  unfold relCode at h
  split at h
  · cases h
  · split at h
    · rename_i h1 h2
      rw [List.all_eq_true] at h2
      have h3 : ∀ x ∈ l, 0 ≤ x ∧ x < ((2 ^ l.length : Nat) : Int) := fun x hx => by
        have := h2 x hx; unfold good at this; exact of_decide_eq_true this
      refine ⟨l.map Int.toNat, ?_, by rw [List.length_map]; omega, fun i => ?_⟩
      · unfold castL
        rw [List.map_map]
        conv => lhs; rw [← List.map_id l]
        refine List.map_congr_left fun x hx => ?_
        have := (h3 x hx).1
        simp; omega
      · unfold row
        rw [List.getElem?_map, List.length_map]
        cases hx : l[i]? with
        | none => simp; exact Nat.two_pow_pos _
        | some x =>
          have := h3 x (List.mem_of_getElem? hx)
          simp only [Option.map_some, Option.getD_some]; omega
    · cases h
theorem relCode_cast {r : List Nat} (h : r.length ≤ 12) (hb : ∀ i, row r i < 2 ^ r.length) : relCode (castL r) = 0 := by
  unfold relCode
  rw [length_castL, if_neg (by omega), if_pos]
  rw [List.all_eq_true]
  intro x hx
  obtain ⟨i, hi⟩ := List.getElem?_of_mem hx
  have e := get_castL hi
  unfold good
  rw [length_castL]
  have := hb i
  refine decide_eq_true ?_
  omega

set_option maxHeartbeats 400000 in
theorem Check_any (l : List Int) (A : Option Addr) (c : Nat) (w : World) (h : IntsAt w A l) (hl : l.length < 2 ^ 60) :
    Calls Tryd.prog 82 #[.slice A l.length c] w fun e w' => e = .returned (errVal (relCode l)) ∧ w = w' := by
  by_cases h12 : 12 < l.length
  · have Hc := Lib.hid (show relCode l = 4 by unfold relCode; rw [if_pos h12])
    generalize l.length = n at *
    go_enter Tryd.func82, Tryd.ntmps82
    go_wp2
    go_ret
    exact ⟨by rw [Hc.out]; rfl, rfl⟩
  · have Hc := Lib.hid (show relCode l = if l.all (good l) then 0 else 1 by unfold relCode; rw [if_neg h12])
    have Hg := Lib.hid (show ∀ x, good l x = decide (0 ≤ x ∧ x < ((2 ^ l.length : Nat) : Int)) from fun x => rfl)
    generalize hn : l.length = n at *
    have Hn := Lib.hid hn
    clear hn
    go_enter Tryd.func82, Tryd.ntmps82
    go_wp2
    go_loop [11] (fun i => ∃ k : Nat, k ≤ n ∧ i = .int .i64 k ∧ (l.take k).all (good l) = true) (fun i => n - (intOf i).toNat)
    case atStart => exact ⟨0, Nat.zero_le _, rfl, rfl⟩
    case round =>
      obtain ⟨k, hk, rfl, hall⟩ := hrel
      have Hall := Lib.hid hall
      clear hall
      by_cases hlt : k < n
      · obtain ⟨b, off, x, rfl, hx, hc⟩ := h.at_ (k := k) (by have := Hn.out; omega)
        clear h
        have hall' : (l.take (k + 1)).all (good l) = good l x := by
          rw [List.take_add_one, hx.out]; simp [Hall.out]
        by_cases hgd : decide (0 ≤ x ∧ x < ((2 ^ n : Nat) : Int)) = true
        · have Hgd := Lib.hid hgd
          have Hall' := Lib.hid (show (l.take (k + 1)).all (good l) = true by rw [hall', Hg.out, hgd])
          clear hgd hall'
          go_wp2_with (go_at_call 103; refine (Mask_is _ _ true _ (by omega) Hgd.out).mono ?_; rintro e w' ⟨rfl, rfl⟩)
          refine ⟨⟨k + 1, by omega, by go_num, Hall'.out⟩, by simp [intOf]; omega⟩
        · have hf : decide (0 ≤ x ∧ x < ((2 ^ n : Nat) : Int)) = false := by simpa using hgd
          have Hgd := Lib.hid hf
          have Hc' := Lib.hid (show relCode l = 1 by
            rw [Hc.out, if_neg]
            intro h
            rw [List.all_eq_true] at h
            have := h x (List.mem_of_getElem? hx.out)
            rw [Hg.out] at this
            exact hgd this)
          clear hgd hall' hf
          go_wp2_with (go_at_call 103; refine (Mask_is _ _ false _ (by omega) Hgd.out).mono ?_; rintro e w' ⟨rfl, rfl⟩)
          go_ret
          exact ⟨by rw [Hc'.out]; rfl, rfl⟩
      · obtain rfl : k = n := by omega
        have Hc' := Lib.hid (show relCode l = 0 by
          rw [Hc.out, if_pos]
          have := Hall.out
          rwa [List.take_of_length_le (by have := Hn.out; omega)] at this)
        go_wp2
        go_ret
        exact ⟨by rw [Hc'.out]; rfl, rfl⟩

set_option maxHeartbeats 1000000 in
theorem closed_any (r : List Nat) (hr : r ≠ []) (hlen : r.length ≤ 12) (hb : ∀ i, row r i < 2 ^ r.length) (b off c : Nat) (w : World) (h : IntsAt w (some ⟨b, off, none⟩) (castL r)) :
    Calls Tryd.prog 83 #[.slice (some ⟨b, off, none⟩) r.length c] w fun e w' => ∃ B c', e = .returned (.slice B r.length c') ∧ IntsAt w' B (castL (closed r)) ∧ Below w.heap.size w w' := by
  have hcl := Clone_some b off c (castL r) w h (by intro e; exact hr (by simpa [castL] using e)) (by rw [length_castL]; omega)
  rw [length_castL] at hcl
  have Hcl := Lib.hid hcl
  clear hcl h
  generalize hn : r.length = n at *
  have Hn := Lib.hid hn
  have Hb := Lib.hid hb
  clear hn hb
  go_enter Tryd.func83, Tryd.ntmps83
  go_wp2_with (go_at_call 39; refine Hcl.out.mono ?_; rintro e w1 ⟨g, c', rfl, hg, hown, hbl⟩)
  clear Hcl
  have hbig : n < 2 ^ 60 := by omega
  go_loopw [11] (fun i wr => ∃ k : Nat, k ≤ n ∧ i = .int .i64 k ∧ OwnAt wr g 3 ((castL (selfTo r k)).map (.int .i64)) ∧ Below w.heap.size w wr) (fun i _ => n - (intOf i).toNat)
  case atStart => exact ⟨0, Nat.zero_le _, rfl, hown, hbl⟩
  case round =>
    clear hown hbl
    obtain ⟨k, hk, rfl, hown, hbl⟩ := hrel
    by_cases hlt : k < n
    · have hcell := hown.cell (get_cast_val (selfTo r k) k (by rw [length_selfTo]; have := Hn.out; omega))
      have hfree := hown.free k
      have hx : row (selfTo r k) k < 2 ^ n := (Bd.selfTo Hb.out k (by omega)) k
      have hset : OwnAt (wr.setCell ⟨g, k, none⟩ (.int .i64 ((row (selfTo r k) k ||| 2 ^ k : Nat) : Int))) g 3 ((castL (selfTo r (k + 1))).map (.int .i64)) := by
        rw [selfTo_succ, selfRow, map_set_cast]
        exact hown.set (by simp [length_castL, length_selfTo]; have := Hn.out; omega) _
      have hp : 2 ^ n ≤ 2 ^ 12 := Nat.pow_le_pow_right (by decide) hlen
      have hp2 : 2 ^ k < 2 ^ 62 := Nat.pow_lt_pow_right (by decide) (by omega)
      have hbits : bits .or .i64 ((row (selfTo r k) k : Nat) : Int) (wrap64 (2 ^ k)) = ((row (selfTo r k) k ||| 2 ^ k : Nat) : Int) := by
        rw [wrap64_pow k (by omega)]; exact bits_or_nat _ _ (by omega) hp2
      clear hown hp hp2
      generalize row (selfTo r k) k = x at *
      generalize x ||| 2 ^ k = y at *
      have Hset := Lib.hid hset
      clear hset
      go_wp2
      go_region
      go_wp2
      refine ⟨⟨k + 1, by omega, by go_num, ?_, ?_⟩, by simp [intOf]; omega⟩
      · exact Hset.out
      · exact (hbl.setCell hg _).drew
    · obtain rfl : k = n := by omega
      go_wp2
      go_loopw [25] (fun i wr => ∃ t : Nat, t ≤ k ∧ i = .int .i64 t ∧ OwnAt wr g 3 ((castL (closedTo r t)).map (.int .i64)) ∧ Below w.heap.size w wr) (fun i _ => k - (intOf i).toNat)
      case atStart => exact ⟨0, Nat.zero_le _, rfl, by unfold closedTo; rw [Hn.out]; exact hown, hbl⟩
      case round =>
        clear hown hbl
        obtain ⟨t, ht, rfl, hown, hbl⟩ := hrel
        by_cases hlt2 : t < k
        · go_wp2
          obtain ⟨wo, rfl⟩ : ∃ wo : World, wo = wr := ⟨_, rfl⟩
          go_loopw [30] (fun i wr => ∃ m : Nat, m ≤ k ∧ i = .int .i64 m ∧ OwnAt wr g 3 ((castL (closeTo t (closedTo r t) m)).map (.int .i64)) ∧ Below w.heap.size w wr) (fun i _ => k - (intOf i).toNat)
          case atStart => exact ⟨0, Nat.zero_le _, rfl, hown, hbl⟩
          case round =>
            clear hown hbl
            obtain ⟨m, hm, rfl, hown, hbl⟩ := hrel
            by_cases hlt3 : m < k
            · have Hbd := Lib.hid (Bd.closeTo (Bd.closedTo (by have := Hb.out; rw [Hn.out]; exact this) t) t m)
              have Hl : (closeTo t (closedTo r t) m).length = k := by rw [length_closeTo, length_closedTo]; exact Hn.out
              have hcell := hown.cell (get_cast_val (closeTo t (closedTo r t) m) m (by omega))
              have hcell2 := hown.cell (get_cast_val (closeTo t (closedTo r t) m) t (by omega))
              have hfree := hown.free m
              have hp : 2 ^ r.length ≤ 2 ^ 12 := Nat.pow_le_pow_right (by decide) (by have := Hn.out; omega)
              have hx := Hbd.out m
              have hy := Hbd.out t
              have hx2 : row (closeTo t (closedTo r t) m) m < 2 ^ 62 := by omega
              have hbits := bits_or_nat (row (closeTo t (closedTo r t) m) m) (row (closeTo t (closedTo r t) m) t) (by omega) (by omega)
              have hset : OwnAt (wr.setCell ⟨g, m, none⟩ (.int .i64 ((row (closeTo t (closedTo r t) m) m ||| row (closeTo t (closedTo r t) m) t : Nat) : Int))) g 3 ((castL ((closeTo t (closedTo r t) m).set m (row (closeTo t (closedTo r t) m) m ||| row (closeTo t (closedTo r t) m) t))).map (.int .i64)) := by
                rw [map_set_cast]
                exact hown.set (by simp [length_castL]; omega) _
              have hnext := closeTo_succ t (closedTo r t) m
              unfold closeRow at hnext
              clear hx hy hp Hbd Hl
              generalize closeTo t (closedTo r t) m = L at *
              generalize hxe : row L m = x at *
              generalize row L t = y at *
              generalize x ||| y = z at *
              have Hset := Lib.hid hset
              have Hnext := Lib.hid hnext
              have Hown := Lib.hid hown
              clear hset hnext hxe hown
              by_cases hbit : x.testBit t = true
              · have Hbit := Lib.hid hbit
                clear hbit
                go_wp2_with (go_at_call 99; refine (Has_is _ _ true _ hx2 (by omega) Hbit.out).mono ?_; rintro e w' ⟨rfl, rfl⟩)
                go_region
                go_wp2
                refine ⟨⟨m + 1, by omega, by go_num, ?_, ?_⟩, by simp [intOf]; omega⟩
                · rw [Hnext.out, if_pos Hbit.out]; exact Hset.out
                · exact (hbl.setCell hg _).drew
              · have Hbit := Lib.hid (show x.testBit t = false by simpa using hbit)
                clear hbit
                go_wp2_with (go_at_call 99; refine (Has_is _ _ false _ hx2 (by omega) Hbit.out).mono ?_; rintro e w' ⟨rfl, rfl⟩)
                refine ⟨⟨m + 1, by omega, by go_num, ?_, ?_⟩, by simp [intOf]; omega⟩
                · rw [Hnext.out, if_neg (by rw [Hbit.out]; simp)]; exact Hown.out
                · exact hbl
            · obtain rfl : m = k := by omega
              go_wp2
              refine ⟨⟨t + 1, by omega, by go_num, ?_, ?_⟩, by simp [intOf]; omega⟩
              · rw [closedTo_succ, closeK, Hn.out]; exact hown
              · exact hbl
        · obtain rfl : t = k := by omega
          go_wp2
          go_ret
          exact ⟨_, _, rfl, (by have := hown.ints; unfold closed; rw [Hn.out]; exact this), hbl⟩
end Go.Proofs.YtdgncngkalgknaaDoor
