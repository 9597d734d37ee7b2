/-
  The walk of quietwinglaw1.RelCloses.
-/
import Derived.Test.YtbdochaahbpabaaRelB
namespace Go.Proofs.Ytbdochaahbpabaa
open Go.RowKit

/-- The cell of a set in a slice of sets. -/
theorem IntsAt.bit {w : World} {A : Option Addr} {r : List Nat} (h : IntsAt w A (castL r)) {k : Nat} (hk : k < r.length) :
    ∃ b off, A = some ⟨b, off, none⟩ ∧ w.cell? ⟨b, off + k, none⟩ = some (.int .i64 (row r k : Nat)) := by
  obtain ⟨b, off, x, hA, hx, hc⟩ := h.at_ (k := k) (by rw [length_castL]; exact hk)
  have := get_castL hx.out
  subst this
  exact ⟨b, off, hA, hc⟩
theorem within_of_sub {a b : Nat} (h : Sub a b) : within a b = true := (within_iff a b).2 h
theorem sub_of_within {a b : Nat} (h : within a b = true) : Sub a b := (within_iff a b).1 h

structure SGood (r s : List Nat) (n i : Nat) : Prop where
  self : (row s i).testBit i = true
  more : Sub (row r i) (row s i)
  trans : ∀ j, j < n → (row s i).testBit j = true → Sub (row s j) (row s i)

set_option maxRecDepth 100000 in
set_option maxHeartbeats 4000000 in
theorem RelCloses_ok (r : List Nat) (hlen : r.length ≤ 12) (hb : Bd r.length r) (ls : List Int) (hls : ls.length < 2 ^ 60) (A S : Option Addr) (c d : Nat) (w : World) (h : IntsAt w A (castL r)) (hs : IntsAt w S ls) :
    Calls Try.prog 4 #[.slice A r.length c, .slice S ls.length d] w fun e w' => e = .returned (.bool true) ∧ Below w.heap.size w w' := by
  generalize hn : r.length = n at *
  have Hn := Lib.hid hn
  have Hb := Lib.hid hb
  have Hc := Lib.hid (closed_inv r)
  have Hlt := Lib.hid (closed_lt r (by rw [hn]; exact hb))
  have Hcl := Lib.hid (fun (W : World) (hW : IntsAt W A (castL r)) => Closure_ok r (by omega) (by rw [hn]; exact hb) A c W hW)
  have Hchk := Lib.hid (fun (W : World) (hW : IntsAt W S ls) => Check_any ls S d W hW hls)
  rw [hn] at Hcl Hlt
  clear hn hb
  generalize hm : ls.length = m at *
  have Hm := Lib.hid hm
  clear hm
  go_enter Try.func4, Try.ntmps4
  go_wp2_with (go_at_call 6; refine (relFact_any _).mono ?_; rintro e w1 ⟨rfl, hb1⟩)
  refine (Hcl.out w1 (h.below hb1)).mono ?_
  rintro e w2 ⟨C, cc, rfl, hC, hb2⟩
  have hr2 := (h.below hb1).below hb2
  have hs2 := (hs.below hb1).below hb2
  have hbl : Below w.heap.size w w2 := hb1.trans (hb2.mono hb1.size)
  have Hbl := Lib.hid hbl
  clear h hs hb1 hb2 hbl Hcl
  go_wp2_with fail
  go_loopw [9] (fun i wr => ∃ k : Nat, k ≤ n ∧ i = .int .i64 k ∧ ∃ q, wr = w2.drewN q) (fun i _ => n - (intOf i).toNat)
  case atStart => exact ⟨0, Nat.zero_le _, rfl, 0, rfl⟩
  case round =>
    obtain ⟨k, hk, rfl, q, rfl⟩ := hrel
    by_cases hlt : k < n
    · obtain ⟨bc, oc, rfl, hcc⟩ := hC.bit (k := k) (by rw [length_closed]; have := Hn.out; omega)
      obtain ⟨br, orr, rfl, hcr⟩ := hr2.bit (k := k) (by have := Hn.out; omega)
      have hp : 2 ^ n ≤ 2 ^ 12 := Nat.pow_le_pow_right (by decide) hlen
      have hx := Hlt.out k
      have hy := Hb.out k
      have hx1 : row (closed r) k ≤ 4095 := by omega
      have hy1 : row r k < 2 ^ 62 := by omega
      have Hself := Lib.hid (Hc.out.self k (by have := Hn.out; omega))
      have Hmore := Lib.hid (within_of_sub (Hc.out.more k (by have := Hn.out; omega)))
      have Htr := Lib.hid (fun j (hj : j < n) hbit => within_of_sub (Hc.out.trans k j (by have := Hn.out; omega) (by have := Hn.out; omega) (by have := Hn.out; omega) hbit))
      clear hp hx hy
      have Hxe := Lib.hid (rfl : row (closed r) k = row (closed r) k)
      generalize row (closed r) k = x at *
      generalize row r k = y at *
      have g0 : decide ((x : Int) < 0) = false := by simp
      have g1 : decide ((4095 : Int) < (x : Int)) = false := by simp; omega
      go_wp2_with fail
      go_quiet (first | (go_at_call 8; first | exact quiet1 (Bit_is _ _ true _ (by omega) (by omega) Hself.out) | exact quiet2 (Bit_is _ _ true _ (by omega) (by omega) Hself.out)) | (go_at_call 9; first | exact quiet1 (Within_is _ _ true _ (by omega) (by omega) Hmore.out) | exact quiet2 (Within_is _ _ true _ (by omega) (by omega) Hmore.out)))
      go_wp2_with fail
      go_loopw [10] (fun i wr => ∃ j : Nat, j ≤ n ∧ i = .int .i64 j ∧ ∃ q, wr = w2.drewN q) (fun i _ => n - (intOf i).toNat)
      case atStart => exact ⟨0, Nat.zero_le _, rfl, _, World.drewN_drewN _ _ _⟩
      case round =>
        obtain ⟨j, hj, rfl, q2, rfl⟩ := hrel
        by_cases hltj : j < n
        · obtain ⟨bz, oz, hze, hcz⟩ := hC.bit (k := j) (by rw [length_closed]; have := Hn.out; omega)
          obtain ⟨rfl, rfl⟩ : bc = bz ∧ oc = oz := by injection hze with hze; injection hze with h1 h2; exact ⟨h1, h2⟩
          have hz1 : row (closed r) j < 2 ^ 62 := Nat.lt_trans (Hlt.out j) (Nat.pow_lt_pow_right (by decide) (by omega))
          have Htr := Lib.hid (Htr.out j hltj)
          clear hze
          generalize row (closed r) j = z at *
          by_cases hbit : x.testBit j = true
          · have Hbit := Lib.hid hbit
            have Hw := Lib.hid (Htr.out hbit)
            clear hbit
            go_wp2_with fail
            go_quiet (first | (go_at_call 8; first | exact quiet1 (Bit_is _ _ true _ (by omega) (by omega) Hbit.out) | exact quiet2 (Bit_is _ _ true _ (by omega) (by omega) Hbit.out)) | (go_at_call 9; first | exact quiet1 (Within_is _ _ true _ (by omega) (by omega) Hw.out) | exact quiet2 (Within_is _ _ true _ (by omega) (by omega) Hw.out)))
            go_wp2_with fail
            refine ⟨⟨j + 1, by omega, by go_num, _, rfl⟩, by simp [intOf]; omega⟩
          · have Hbit := Lib.hid (show x.testBit j = false by simpa using hbit)
            clear hbit
            go_wp2_with fail
            go_quiet (first | (go_at_call 8; first | exact quiet1 (Bit_is _ _ false _ (by omega) (by omega) Hbit.out) | exact quiet2 (Bit_is _ _ false _ (by omega) (by omega) Hbit.out)))
            go_wp2_with fail
            refine ⟨⟨j + 1, by omega, by go_num, _, rfl⟩, by simp [intOf]; omega⟩
        · obtain rfl : j = n := by omega
          go_wp2_with fail
          refine ⟨⟨k + 1, by omega, by go_num, _, rfl⟩, by simp [intOf]; omega⟩
    · obtain rfl : k = n := by omega
      clear hlt
      by_cases hmn : m = k
      · subst hmn
        by_cases hcode : relCode ls = 0
        · obtain ⟨s, rfl, hs12, hsb⟩ := relCode_ok hcode
          have Hsn := Lib.hid (show s.length = m by have := Hm.out; rw [length_castL] at this; exact this)
          have Hsb := Lib.hid hsb
          have Hck := Lib.hid (Hchk.out (w2.drewN q) (hs2.drewN q))
          rw [hcode, show errVal 0 = .nilIface from rfl] at Hck
          clear hcode hsb Hchk
          go_wp2_with (go_at_call 10; refine Hck.out.mono ?_; rintro e w' ⟨rfl, rfl⟩)
          clear Hck
          go_loopw [11] (fun i wr => ∃ t : Nat, t ≤ m ∧ i = .int .i64 t ∧ (∃ q, wr = w2.drewN q) ∧ ∀ i, i < t → SGood r s m i) (fun i _ => m - (intOf i).toNat)
          case atStart => exact ⟨0, Nat.zero_le _, rfl, ⟨_, rfl⟩, fun i hi => absurd hi (Nat.not_lt_zero _)⟩
          case round =>
            obtain ⟨t, ht, rfl, ⟨q, rfl⟩, hgood⟩ := hrel
            have Hgood := Lib.hid hgood
            clear hgood
            by_cases hlt : t < m
            · obtain ⟨bs, os, rfl, hcs⟩ := hs2.bit (k := t) (by have := Hsn.out; omega)
              obtain ⟨br, orr, rfl, hcr⟩ := hr2.bit (k := t) (by have := Hn.out; omega)
              have hp : 2 ^ m ≤ 2 ^ 12 := Nat.pow_le_pow_right (by decide) hlen
              have hx := Hsb.out t
              rw [Hsn.out] at hx
              have hy := Hb.out t
              have hx1 : row s t < 2 ^ 62 := by omega
              have hy1 : row r t < 2 ^ 62 := by omega
              clear hp hx hy
              have Hg := Lib.hid (fun h1 h2 h3 => (⟨h1, h2, h3⟩ : SGood r s m t))
              generalize hxe : row s t = x at *
              generalize row r t = y at *
              have Hxe := Lib.hid hxe
              clear hxe
              by_cases hb1 : x.testBit t = true
              · have Hb1 := Lib.hid hb1
                clear hb1
                by_cases hb2 : within y x = true
                · have Hb2 := Lib.hid hb2
                  clear hb2
                  go_wp2_with fail
                  go_quiet (first | (go_at_call 8; first | exact quiet1 (Bit_is _ _ true _ (by omega) (by omega) Hb1.out) | exact quiet2 (Bit_is _ _ true _ (by omega) (by omega) Hb1.out)) | (go_at_call 9; first | exact quiet1 (Within_is _ _ true _ (by omega) (by omega) Hb2.out) | exact quiet2 (Within_is _ _ true _ (by omega) (by omega) Hb2.out)))
                  go_wp2_with fail
                  go_loopw [12] (fun i wr => ∃ j : Nat, j ≤ m ∧ i = .int .i64 j ∧ (∃ q, wr = w2.drewN q) ∧ ∀ i, i < j → x.testBit i = true → within (row s i) x = true) (fun i _ => m - (intOf i).toNat)
                  case atStart => exact ⟨0, Nat.zero_le _, rfl, ⟨_, World.drewN_drewN _ _ _⟩, fun i hi => absurd hi (Nat.not_lt_zero _)⟩
                  case round =>
                    obtain ⟨j, hj, rfl, ⟨q2, rfl⟩, hall⟩ := hrel
                    have Hall := Lib.hid hall
                    clear hall
                    by_cases hltj : j < m
                    · obtain ⟨bz, oz, hze, hcz⟩ := hs2.bit (k := j) (by have := Hsn.out; omega)
                      obtain ⟨rfl, rfl⟩ : bs = bz ∧ os = oz := by injection hze with hze; injection hze with h1 h2; exact ⟨h1, h2⟩
                      have hz1 : row s j < 2 ^ 62 := by
                        have := Hsb.out j
                        rw [Hsn.out] at this
                        exact Nat.lt_trans this (Nat.pow_lt_pow_right (by decide) (by omega))
                      have Hz := Lib.hid (rfl : row s j = row s j)
                      clear hze
                      have Hnext := Lib.hid (fun (h : x.testBit j = true → within (row s j) x = true) i (hi : i < j + 1) => (by
                        rcases Nat.lt_or_eq_of_le (Nat.le_of_lt_succ hi) with h1 | rfl
                        · exact Hall.out i h1
                        · exact h : x.testBit i = true → within (row s i) x = true))
                      by_cases hbit : x.testBit j = true
                      · have Hbit := Lib.hid hbit
                        clear hbit
                        by_cases hw : within (row s j) x = true
                        · have Hw := Lib.hid hw
                          clear hw
                          go_wp2_with fail
                          go_quiet (first | (go_at_call 8; first | exact quiet1 (Bit_is _ _ true _ (by omega) (by omega) Hbit.out) | exact quiet2 (Bit_is _ _ true _ (by omega) (by omega) Hbit.out)) | (go_at_call 9; first | exact quiet1 (Within_is _ _ true _ (by omega) (by omega) Hw.out) | exact quiet2 (Within_is _ _ true _ (by omega) (by omega) Hw.out)))
                          go_wp2_with fail
                          refine ⟨⟨j + 1, by omega, by go_num, ⟨_, rfl⟩, Hnext.out fun _ => Hw.out⟩, by simp [intOf]; omega⟩
                        · have Hw := Lib.hid (show within (row s j) x = false by simpa using hw)
                          clear hw
                          go_wp2_with fail
                          go_quiet (first | (go_at_call 8; first | exact quiet1 (Bit_is _ _ true _ (by omega) (by omega) Hbit.out) | exact quiet2 (Bit_is _ _ true _ (by omega) (by omega) Hbit.out)) | (go_at_call 9; first | exact quiet1 (Within_is _ _ false _ (by omega) (by omega) Hw.out) | exact quiet2 (Within_is _ _ false _ (by omega) (by omega) Hw.out)))
                          go_wp2_with fail
                          go_ret
                          exact ⟨rfl, below_drewN (below_drewN Hbl.out _) _⟩
                      · have Hbit := Lib.hid (show x.testBit j = false by simpa using hbit)
                        clear hbit
                        go_wp2_with fail
                        go_quiet (first | (go_at_call 8; first | exact quiet1 (Bit_is _ _ false _ (by omega) (by omega) Hbit.out) | exact quiet2 (Bit_is _ _ false _ (by omega) (by omega) Hbit.out)))
                        go_wp2_with fail
                        refine ⟨⟨j + 1, by omega, by go_num, ⟨_, rfl⟩, Hnext.out fun h => absurd h (by rw [Hbit.out]; simp)⟩, by simp [intOf]; omega⟩
                    · obtain rfl : j = m := by omega
                      have Hsg := Lib.hid (Hg.out Hb1.out (sub_of_within Hb2.out) fun i hi hb => sub_of_within (Hall.out i hi hb))
                      go_wp2_with fail
                      refine ⟨⟨t + 1, by omega, by go_num, ⟨_, rfl⟩, fun i hi => ?_⟩, by simp [intOf]; omega⟩
                      rcases Nat.lt_or_eq_of_le (Nat.le_of_lt_succ hi) with h1 | rfl
                      · exact Hgood.out i h1
                      · exact Hsg.out
                · have Hb2 := Lib.hid (show within y x = false by simpa using hb2)
                  clear hb2
                  go_wp2_with fail
                  go_quiet (first | (go_at_call 8; first | exact quiet1 (Bit_is _ _ true _ (by omega) (by omega) Hb1.out) | exact quiet2 (Bit_is _ _ true _ (by omega) (by omega) Hb1.out)) | (go_at_call 9; first | exact quiet1 (Within_is _ _ false _ (by omega) (by omega) Hb2.out) | exact quiet2 (Within_is _ _ false _ (by omega) (by omega) Hb2.out)))
                  go_wp2_with fail
                  go_ret
                  exact ⟨rfl, below_drewN (below_drewN Hbl.out _) _⟩
              · have Hb1 := Lib.hid (show x.testBit t = false by simpa using hb1)
                clear hb1
                go_wp2_with fail
                go_quiet (first | (go_at_call 8; first | exact quiet1 (Bit_is _ _ false _ (by omega) (by omega) Hb1.out) | exact quiet2 (Bit_is _ _ false _ (by omega) (by omega) Hb1.out)))
                go_wp2_with fail
                go_ret
                exact ⟨rfl, below_drewN (below_drewN Hbl.out _) _⟩
            · obtain rfl : t = m := by omega
              have Hleast := Lib.hid (Hc.out.least s fun i hi => have h := Hgood.out i (by have := Hn.out; omega); ⟨h.self, h.more, fun j hj => h.trans j (by have := Hn.out; omega)⟩)
              go_wp2_with fail
              go_loopw [13] (fun i wr => ∃ k : Nat, k ≤ t ∧ i = .int .i64 k ∧ ∃ q, wr = w2.drewN q) (fun i _ => t - (intOf i).toNat)
              case atStart => exact ⟨0, Nat.zero_le _, rfl, _, rfl⟩
              case round =>
                obtain ⟨k, hk, rfl, q3, rfl⟩ := hrel
                by_cases hltk : k < t
                · obtain ⟨bs, os, rfl, hcs⟩ := hs2.bit (k := k) (by have := Hsn.out; omega)
                  obtain ⟨bc, oc, rfl, hcc⟩ := hC.bit (k := k) (by rw [length_closed]; have := Hn.out; omega)
                  have Hw := Lib.hid (within_of_sub (Hleast.out k (by have := Hn.out; omega)))
                  have hp : 2 ^ t ≤ 2 ^ 12 := Nat.pow_le_pow_right (by decide) hlen
                  have hx := Hsb.out k
                  rw [Hsn.out] at hx
                  have hy := Hlt.out k
                  have hx1 : row s k < 2 ^ 62 := by omega
                  have hy1 : row (closed r) k < 2 ^ 62 := by omega
                  clear hp hx hy
                  go_wp2_with fail
                  go_quiet (first | (go_at_call 9; first | exact quiet1 (Within_is _ _ true _ (by omega) (by omega) Hw.out) | exact quiet2 (Within_is _ _ true _ (by omega) (by omega) Hw.out)))
                  go_wp2_with fail
                  refine ⟨⟨k + 1, by omega, by go_num, _, rfl⟩, by simp [intOf]; omega⟩
                · obtain rfl : k = t := by omega
                  go_wp2_with fail
                  go_ret
                  exact ⟨rfl, below_drewN Hbl.out _⟩
        · have Hck := Lib.hid (Hchk.out (w2.drewN q) (hs2.drewN q))
          rw [errVal, if_neg hcode] at Hck
          clear hcode Hchk
          generalize relCode ls = cd at *
          go_wp2_with (go_at_call 10; refine Hck.out.mono ?_; rintro e w' ⟨rfl, rfl⟩)
          go_ret
          exact ⟨rfl, below_drewN Hbl.out _⟩
      · have hb1 : ((m : Int) != (k : Int)) = true := by rw [bne_iff_ne]; omega
        go_wp2_with fail
        go_ret
        exact ⟨rfl, below_drewN Hbl.out _⟩

theorem RelCloses_bad (l : List Int) (hl : l.length < 2 ^ 60) (hbad : relCode l ≠ 0) (A S : Option Addr) (n c d : Nat) (w : World) (h : IntsAt w A l) :
    Calls Try.prog 4 #[.slice A l.length c, .slice S n d] w fun e w' => e = .returned (.bool true) ∧ Below w.heap.size w w' := by
  have Hcl := Lib.hid (fun (W : World) (hW : IntsAt W A l) => Closure_bad l A c W hW hl hbad)
  generalize l.length = m at *
  generalize relCode l = cd at *
  clear hbad
  go_enter Try.func4, Try.ntmps4
  go_wp2_with (go_at_call 6; refine (relFact_any _).mono ?_; rintro e w1 ⟨rfl, hb1⟩)
  refine (Hcl.out w1 (h.below hb1)).mono ?_
  rintro e w2 ⟨rfl, rfl⟩
  go_wp2_with fail
  go_ret
  exact ⟨rfl, hb1⟩

theorem RelCloses_walk (l0 : List Int) (A0 : Option Addr) (c0 : Nat) {W : World} (i0 : IntsAt W A0 l0) (s0 : l0.length < 2 ^ 47) (_ : ∀ x ∈ l0, -9223372036854775808 ≤ x ∧ x ≤ 9223372036854775807)
    (l1 : List Int) (A1 : Option Addr) (c1 : Nat) (i1 : IntsAt W A1 l1) (s1 : l1.length < 2 ^ 47) (_ : ∀ x ∈ l1, -9223372036854775808 ≤ x ∧ x ≤ 9223372036854775807) (w : World) (hw : w = W) :
    Calls Try.prog 4 #[.slice A0 l0.length c0, .slice A1 l1.length c1] w fun e w' => e = .returned (.bool true) ∧ Below w.heap.size w w' := by
  subst hw
  by_cases hc : relCode l0 = 0
  · obtain ⟨r, rfl, hlen, hb⟩ := relCode_ok hc
    rw [length_castL]
    exact RelCloses_ok r hlen hb l1 (by omega) A0 A1 c0 c1 w i0 i1
  · exact RelCloses_bad l0 (by omega) hc A0 A1 _ c0 c1 w i0
end Go.Proofs.Ytbdochaahbpabaa
