/-
  The walk of quietwinglaw1.RelOrder.
-/
import Derived.Test.YtbdochaahbpabaaDoorOrder
import Derived.Test.YtbdochaahbpabaaDoorRelWords
import Derived.Test.YtbdochaahbpabaaDoorFrame
namespace Go.Proofs.YtbdochaahbpabaaDoor
open Go.RowKit
set_option maxRecDepth 100000

set_option maxHeartbeats 8000000 in
theorem RelOrder_ok (r : List Nat) (hlen : r.length ≤ 12) (hb : Bd r.length r) (keep : Int) (hkeep : keep < 2 ^ 63) (A : Option Addr) (c : Nat) (w : World) (h : IntsAt w A (castL r)) (hT : Tab w) :
    Calls Tryd.prog 4 #[.slice A r.length c, .int .i64 keep] w fun e w' => e = .returned (.bool true) ∧ Below w.heap.size w w' := by
  have Ho := Lib.hid (fun (W : World) (hW : IntsAt W A (castL r)) (hT : Tab W) => Order_ok r hlen hb A c W hW hT)
  have Hc := Lib.hid (fun (W : World) (hW : IntsAt W A (castL r)) => Closure_ok r hlen hb A c W hW)
  have Hb := Lib.hid hb
  generalize hn : r.length = n at *
  have Hn := Lib.hid hn
  have Hfin := Lib.hid (fun kb ring T Q => ROInv.fin (r := r) (kb := kb) (ring := ring) (T := T) (Q := Q) (n := n) (by omega) hn hb)
  have Hcn := Lib.hid ((length_closed r).trans hn)
  have Hcb := Lib.hid (bd_closed hn hb)
  clear hn hb
  generalize closed r = cl at *
  obtain ⟨ti, hi, hz0, hz1, hz2⟩ := info_parts intInfo
  obtain ⟨kb, hkbd⟩ : ∃ kb : Nat → Bool, ∀ b, kb b = (decide (0 ≤ keep) && keep.toNat.testBit b) := ⟨_, fun _ => rfl⟩
  have Hkb := Lib.hid hkbd
  have Hkeep := Lib.hid hkeep
  clear hkbd hkeep
  go_enter Tryd.func4, Tryd.ntmps4
  go_wp2_with (go_at_call 18; refine (relFact_any _).mono ?_; rintro e w1 ⟨rfl, hb1⟩)
  have h1 := h.below hb1
  have hT1 := hT.next hb1
  refine (Ho.out w1 h1 hT1).mono ?_
  rintro e w2 ⟨rfl, hb2⟩
  have h2 := h1.below hb2
  have hT2 := hT1.next hb2
  have hbl2 := hb1.trans (hb2.mono hb1.size)
  clear h h1 hT hT1 hb1 hb2
  go_wp2_with fail
  refine (Hc.out w2 h2).mono ?_
  rintro e w3 ⟨C, cc, rfl, hC, hb3⟩
  have h3 := h2.below hb3
  have hT3 := hT2.next hb3
  have hbl3 := hbl2.trans (hb3.mono hbl2.size)
  clear h2 hT2 hb3 hbl2
  generalize hord : orderB cl = is at *
  have Hord := Lib.hid hord
  clear hord Ho Hc
  go_wp2_with (at_make; refine wpList_make_full _ rfl _ _ 30 rfl 0 3 ti _ 1 Tryd.underlying30 hi hz0 hz1 _ _ _ _ n rfl rfl rfl rfl (by rw [hz2]; omega) (by unfold maxLen; omega) (Nat.zero_le _) ?_; intro w5 hown2 hgr2)
  rename_i w4 hown1 hgr1 _ _
  have ho1 : OwnAt w5 w3.heap.size 3 ((castL (List.replicate n 0)).map (Value.int .i64)) := by
    have h := made_ints hown1
    exact h.block (hgr2.block _ h.lt (by simp))
  have ho2 : OwnAt w5 w4.heap.size 3 ((castL (List.replicate n 0)).map (Value.int .i64)) := made_ints hown2
  have hlt12 : w3.heap.size < w4.heap.size := (made_ints hown1).lt
  have hbw5 : Below w3.heap.size w3 w5 := ((Below.refl _ w3).grown hgr1 (Nat.le_refl _) (by simp)).grown hgr2 hgr1.size (by simp)
  clear hown1 hown2 hgr1 hgr2
  go_loopw [10, 13] (fun rg i wr => ∃ (k : Nat) (ring : Bool) (T Q : List Nat), k ≤ n ∧ i = .int .i64 k ∧ rg = .bool ring ∧ OwnAt wr w3.heap.size 3 ((castL T).map (Value.int .i64)) ∧ OwnAt wr w4.heap.size 3 ((castL Q).map (Value.int .i64)) ∧
      Below w3.heap.size w3 wr ∧ Hid (ROInv r cl kb n k 0 ring T Q)) (fun _ i _ => n - (intOf i).toNat)
  case atStart => exact ⟨0, false, List.replicate n 0, List.replicate n 0, Nat.zero_le _, rfl, rfl, ho1, ho2, hbw5, ROInv.start _ _ _ _⟩
  case round =>
    clear ho1 ho2 hbw5
    obtain ⟨k, ring, T, Q, hk, rfl, rfl, ho1, ho2, hbw, Hinv⟩ := hrel
    by_cases hlt : k < n
    · go_wp2_with fail
      go_loopw [10, 14] (fun rg i wr => ∃ (j : Nat) (ring : Bool) (T Q : List Nat), j ≤ n ∧ i = .int .i64 j ∧ rg = .bool ring ∧ OwnAt wr w3.heap.size 3 ((castL T).map (Value.int .i64)) ∧ OwnAt wr w4.heap.size 3 ((castL Q).map (Value.int .i64)) ∧
          Below w3.heap.size w3 wr ∧ Hid (ROInv r cl kb n k j ring T Q)) (fun _ i _ => n - (intOf i).toNat)
      case atStart => exact ⟨0, ring, T, Q, Nat.zero_le _, rfl, rfl, ho1, ho2, hbw, Hinv⟩
      case round =>
        clear ho1 ho2 hbw Hinv
        obtain ⟨j, ring, T, Q, hj, rfl, rfl, ho1, ho2, hbw, Hinv⟩ := hrel
        by_cases hltj : j < n
        · have hTl := Hinv.out.lt
          have hQl := Hinv.out.lq
          obtain ⟨bc, oc, rfl, hcc⟩ := (hC.below hbw).row (k := k) (by rw [Hcn.out]; exact hlt)
          obtain ⟨bc', oc', hE, hcd⟩ := (hC.below hbw).row (k := j) (by rw [Hcn.out]; exact hltj)
          obtain ⟨rfl, rfl⟩ : bc = bc' ∧ oc = oc' := by injection hE with hE; injection hE with h1 h2; exact ⟨h1, h2⟩
          obtain ⟨br, orr, rfl, hcr⟩ := (h3.below hbw).row (k := k) (by rw [Hn.out]; exact hlt)
          have hcT : _ = some (Value.int .i64 (row T j : Nat)) := ho1.cell (get_cast_val T j (by omega))
          have hcQ : _ = some (Value.int .i64 (row Q k : Nat)) := ho2.cell (get_cast_val Q k (by omega))
          have hfT := ho1.free j
          have hfQ := ho2.free k
          have hl1 := ho1.lt
          have hl2 := ho2.lt
          have hne1 : ¬ (w3.heap.size = w4.heap.size) := by omega
          have hne2 : ¬ (w4.heap.size = w3.heap.size) := by omega
          have hp12 : 2 ^ n ≤ 2 ^ 12 := Nat.pow_le_pow_right (by decide) hlen
          have hx1 : row cl k < 2 ^ 60 := by have := Hcb.out k; omega
          have hy1 : row cl j < 2 ^ 60 := by have := Hcb.out j; omega
          have hz1' : row r k < 2 ^ 60 := by have := Hb.out k; omega
          have ht1 : row T j < 2 ^ 60 := by have := Hinv.out.tb j; omega
          have hs1 : row Q k < 2 ^ 60 := by have := Hinv.out.qb k; omega
          clear hE hp12
          by_cases hne : k = j
          · subst hne
            have hne : k = k := rfl
            cases hr : (row r k).testBit k with
            | false =>
              have Hr := Lib.hid hr
              have hst := Hinv.out.step hlt hltj
              unfold ringStep turnStep partStep at hst
              simp [hr] at hst
              have Hst := Lib.hid hst
              clear Hinv hst  hr
              generalize row cl k = x at *
              generalize row r k = z at *
              generalize row Q k = s at *
              have CHr := Lib.hid (fun V => BitW_is z k false V (by omega) (by omega) Hr.out)
              clear Hr
              go_wp2_with (first | (go_at_call 21; with_reducible refine (CHr.out _).mono ?_; rintro e w' ⟨rfl, rfl⟩))
              refine ⟨⟨k + 1, ring, T, Q, ?ya, ?yb, rfl, ?yd, ?ye, ?yf, Hst⟩, ?yh⟩
              case ya => omega
              case yb => simp
              case yh => simp [intOf]; omega
              case yd => exact ho1
              case ye => exact ho2
              case yf => exact hbw
            | true =>
              have Hr := Lib.hid hr
              obtain ⟨u, hu⟩ : ∃ u, row T k ||| 2 ^ k = u := ⟨_, rfl⟩
              by_cases hk0 : 0 ≤ keep
              · have Hk0 := Lib.hid hk0
                have hge : decide (keep ≥ 0) = true := by simpa using hk0
                cases hkt : keep.toNat.testBit k with
                | false =>
                  have Hk := Lib.hid hkt
                  have hkb : kb k = false := by rw [Hkb.out, hkt]; simp
                  have hst := Hinv.out.step hlt hltj
                  unfold ringStep turnStep partStep at hst
                  simp [hr, hkb] at hst
                  rw [hu] at hst
                  have Hu := Lib.hid hu
                  clear hu
                  have Hst := Lib.hid hst
                  clear Hinv hst  hr hkb hk0 hkt
                  generalize row cl k = x at *
                  generalize row r k = z at *
                  generalize row T k = t at *
                  generalize row Q k = s at *
                  have CHr := Lib.hid (fun V => BitW_is z k true V (by omega) (by omega) Hr.out)
                  have CHu := Lib.hid (fun V => With_is t k u V (by omega) (by omega) Hu.out)
                  have CHk := Lib.hid (fun V => BitI_is keep k false V Hk0.out Hkeep.out (by omega) Hk.out)
                  clear Hr Hu Hk
                  go_wp2_with (first | (go_at_call 21; with_reducible refine (CHr.out _).mono ?_; rintro e w' ⟨rfl, rfl⟩) | (go_at_call 22; with_reducible refine (CHu.out _).mono ?_; rintro e w' ⟨rfl, rfl⟩) | (go_at_call 21; with_reducible refine (CHk.out _).mono ?_; rintro e w' ⟨rfl, rfl⟩))
                  refine ⟨⟨k + 1, ring, (T.set k u), Q, ?ya, ?yb, rfl, ?yd, ?ye, ?yf, Hst⟩, ?yh⟩
                  case ya => omega
                  case yb => simp
                  case yh => simp [intOf]; omega
                  case yd => rw [map_set_cast]; exact ho1.set (by simp [castL]; omega) _
                  case ye => exact ho2.other hne2 _
                  case yf => exact hbw.setCell (Nat.le_refl _) _
                | true =>
                  have Hk := Lib.hid hkt
                  have hkb : kb k = true := by rw [Hkb.out, hkt]; simp [hk0]
                  obtain ⟨v, hv⟩ : ∃ v, row Q k ||| 2 ^ k = v := ⟨_, rfl⟩
                  have hst := Hinv.out.step hlt hltj
                  unfold ringStep turnStep partStep at hst
                  simp [hr, hkb] at hst
                  rw [hu] at hst
                  have Hu := Lib.hid hu
                  clear hu
                  rw [hv] at hst
                  have Hv := Lib.hid hv
                  clear hv
                  have Hst := Lib.hid hst
                  clear Hinv hst  hr hkb hk0 hkt
                  generalize row cl k = x at *
                  generalize row r k = z at *
                  generalize row T k = t at *
                  generalize row Q k = s at *
                  have CHr := Lib.hid (fun V => BitW_is z k true V (by omega) (by omega) Hr.out)
                  have CHu := Lib.hid (fun V => With_is t k u V (by omega) (by omega) Hu.out)
                  have CHk := Lib.hid (fun V => BitI_is keep k true V Hk0.out Hkeep.out (by omega) Hk.out)
                  have CHv := Lib.hid (fun V => With_is s k v V (by omega) (by omega) Hv.out)
                  clear Hr Hu Hk Hv
                  go_wp2_with (first | (go_at_call 21; with_reducible refine (CHr.out _).mono ?_; rintro e w' ⟨rfl, rfl⟩) | (go_at_call 22; with_reducible refine (CHu.out _).mono ?_; rintro e w' ⟨rfl, rfl⟩) | (go_at_call 21; with_reducible refine (CHk.out _).mono ?_; rintro e w' ⟨rfl, rfl⟩) | (go_at_call 22; with_reducible refine (CHv.out _).mono ?_; rintro e w' ⟨rfl, rfl⟩))
                  refine ⟨⟨k + 1, ring, (T.set k u), (Q.set k v), ?ya, ?yb, rfl, ?yd, ?ye, ?yf, Hst⟩, ?yh⟩
                  case ya => omega
                  case yb => simp
                  case yh => simp [intOf]; omega
                  case yd => rw [map_set_cast]; exact (ho1.set (by simp [castL]; omega) _).other hne1 _
                  case ye => rw [map_set_cast]; exact (ho2.other hne2 _).set (by simp [castL]; omega) _
                  case yf => exact (hbw.setCell (Nat.le_refl _) _).setCell (p := ⟨w4.heap.size, k, none⟩) (Nat.le_of_lt hlt12) _
              · have hkb : kb k = false := by rw [Hkb.out]; simp [hk0]
                have hge : decide (keep ≥ 0) = false := by simpa using hk0
                have hst := Hinv.out.step hlt hltj
                unfold ringStep turnStep partStep at hst
                simp [hr, hkb] at hst
                rw [hu] at hst
                have Hu := Lib.hid hu
                clear hu
                have Hst := Lib.hid hst
                clear Hinv hst  hr hkb hk0
                generalize row cl k = x at *
                generalize row r k = z at *
                generalize row T k = t at *
                generalize row Q k = s at *
                have CHr := Lib.hid (fun V => BitW_is z k true V (by omega) (by omega) Hr.out)
                have CHu := Lib.hid (fun V => With_is t k u V (by omega) (by omega) Hu.out)
                clear Hr Hu
                go_wp2_with (first | (go_at_call 21; with_reducible refine (CHr.out _).mono ?_; rintro e w' ⟨rfl, rfl⟩) | (go_at_call 22; with_reducible refine (CHu.out _).mono ?_; rintro e w' ⟨rfl, rfl⟩))
                refine ⟨⟨k + 1, ring, (T.set k u), Q, ?ya, ?yb, rfl, ?yd, ?ye, ?yf, Hst⟩, ?yh⟩
                case ya => omega
                case yb => simp
                case yh => simp [intOf]; omega
                case yd => rw [map_set_cast]; exact ho1.set (by simp [castL]; omega) _
                case ye => exact ho2.other hne2 _
                case yf => exact hbw.setCell (Nat.le_refl _) _
          · have hneI : ((k : Int) != (j : Int)) = true := by simp; omega
            cases hp : (row cl k).testBit j with
            | false =>
              have Hp := Lib.hid hp
              cases hr : (row r k).testBit j with
              | false =>
                have Hr := Lib.hid hr
                have hst := Hinv.out.step hlt hltj
                unfold ringStep turnStep partStep at hst
                simp [hne, hp, hr] at hst
                have Hst := Lib.hid hst
                clear Hinv hst hp hr
                generalize row cl k = x at *
                generalize row cl j = y at *
                generalize row r k = z at *
                generalize row Q k = s at *
                have CHp := Lib.hid (fun V => BitW_is x j false V (by omega) (by omega) Hp.out)
                have CHr := Lib.hid (fun V => BitW_is z j false V (by omega) (by omega) Hr.out)
                clear Hp Hr
                go_wp2_with (first | (go_at_call 21; with_reducible refine (CHp.out _).mono ?_; rintro e w' ⟨rfl, rfl⟩) | (go_at_call 21; with_reducible refine (CHr.out _).mono ?_; rintro e w' ⟨rfl, rfl⟩))
                refine ⟨⟨j + 1, ring, T, Q, ?ya, ?yb, rfl, ?yd, ?ye, ?yf, Hst⟩, ?yh⟩
                case ya => omega
                case yb => simp
                case yh => simp [intOf]; omega
                case yd => exact ho1
                case ye => exact ho2
                case yf => exact hbw
              | true =>
                have Hr := Lib.hid hr
                obtain ⟨u, hu⟩ : ∃ u, row T j ||| 2 ^ k = u := ⟨_, rfl⟩
                by_cases hk0 : 0 ≤ keep
                · have Hk0 := Lib.hid hk0
                  have hge : decide (keep ≥ 0) = true := by simpa using hk0
                  cases hkt : keep.toNat.testBit j with
                  | false =>
                    have Hk := Lib.hid hkt
                    have hkb : kb j = false := by rw [Hkb.out, hkt]; simp
                    have hst := Hinv.out.step hlt hltj
                    unfold ringStep turnStep partStep at hst
                    simp [hne, hp, hr, hkb] at hst
                    rw [hu] at hst
                    have Hu := Lib.hid hu
                    clear hu
                    have Hst := Lib.hid hst
                    clear Hinv hst hp hr hkb hk0 hkt
                    generalize row cl k = x at *
                    generalize row cl j = y at *
                    generalize row r k = z at *
                    generalize row T j = t at *
                    generalize row Q k = s at *
                    have CHp := Lib.hid (fun V => BitW_is x j false V (by omega) (by omega) Hp.out)
                    have CHr := Lib.hid (fun V => BitW_is z j true V (by omega) (by omega) Hr.out)
                    have CHu := Lib.hid (fun V => With_is t k u V (by omega) (by omega) Hu.out)
                    have CHk := Lib.hid (fun V => BitI_is keep j false V Hk0.out Hkeep.out (by omega) Hk.out)
                    clear Hp Hr Hu Hk
                    go_wp2_with (first | (go_at_call 21; with_reducible refine (CHp.out _).mono ?_; rintro e w' ⟨rfl, rfl⟩) | (go_at_call 21; with_reducible refine (CHr.out _).mono ?_; rintro e w' ⟨rfl, rfl⟩) | (go_at_call 22; with_reducible refine (CHu.out _).mono ?_; rintro e w' ⟨rfl, rfl⟩) | (go_at_call 21; with_reducible refine (CHk.out _).mono ?_; rintro e w' ⟨rfl, rfl⟩))
                    refine ⟨⟨j + 1, ring, (T.set j u), Q, ?ya, ?yb, rfl, ?yd, ?ye, ?yf, Hst⟩, ?yh⟩
                    case ya => omega
                    case yb => simp
                    case yh => simp [intOf]; omega
                    case yd => rw [map_set_cast]; exact ho1.set (by simp [castL]; omega) _
                    case ye => exact ho2.other hne2 _
                    case yf => exact hbw.setCell (Nat.le_refl _) _
                  | true =>
                    have Hk := Lib.hid hkt
                    have hkb : kb j = true := by rw [Hkb.out, hkt]; simp [hk0]
                    obtain ⟨v, hv⟩ : ∃ v, row Q k ||| 2 ^ j = v := ⟨_, rfl⟩
                    have hst := Hinv.out.step hlt hltj
                    unfold ringStep turnStep partStep at hst
                    simp [hne, hp, hr, hkb] at hst
                    rw [hu] at hst
                    have Hu := Lib.hid hu
                    clear hu
                    rw [hv] at hst
                    have Hv := Lib.hid hv
                    clear hv
                    have Hst := Lib.hid hst
                    clear Hinv hst hp hr hkb hk0 hkt
                    generalize row cl k = x at *
                    generalize row cl j = y at *
                    generalize row r k = z at *
                    generalize row T j = t at *
                    generalize row Q k = s at *
                    have CHp := Lib.hid (fun V => BitW_is x j false V (by omega) (by omega) Hp.out)
                    have CHr := Lib.hid (fun V => BitW_is z j true V (by omega) (by omega) Hr.out)
                    have CHu := Lib.hid (fun V => With_is t k u V (by omega) (by omega) Hu.out)
                    have CHk := Lib.hid (fun V => BitI_is keep j true V Hk0.out Hkeep.out (by omega) Hk.out)
                    have CHv := Lib.hid (fun V => With_is s j v V (by omega) (by omega) Hv.out)
                    clear Hp Hr Hu Hk Hv
                    go_wp2_with (first | (go_at_call 21; with_reducible refine (CHp.out _).mono ?_; rintro e w' ⟨rfl, rfl⟩) | (go_at_call 21; with_reducible refine (CHr.out _).mono ?_; rintro e w' ⟨rfl, rfl⟩) | (go_at_call 22; with_reducible refine (CHu.out _).mono ?_; rintro e w' ⟨rfl, rfl⟩) | (go_at_call 21; with_reducible refine (CHk.out _).mono ?_; rintro e w' ⟨rfl, rfl⟩) | (go_at_call 22; with_reducible refine (CHv.out _).mono ?_; rintro e w' ⟨rfl, rfl⟩))
                    refine ⟨⟨j + 1, ring, (T.set j u), (Q.set k v), ?ya, ?yb, rfl, ?yd, ?ye, ?yf, Hst⟩, ?yh⟩
                    case ya => omega
                    case yb => simp
                    case yh => simp [intOf]; omega
                    case yd => rw [map_set_cast]; exact (ho1.set (by simp [castL]; omega) _).other hne1 _
                    case ye => rw [map_set_cast]; exact (ho2.other hne2 _).set (by simp [castL]; omega) _
                    case yf => exact (hbw.setCell (Nat.le_refl _) _).setCell (p := ⟨w4.heap.size, k, none⟩) (Nat.le_of_lt hlt12) _
                · have hkb : kb j = false := by rw [Hkb.out]; simp [hk0]
                  have hge : decide (keep ≥ 0) = false := by simpa using hk0
                  have hst := Hinv.out.step hlt hltj
                  unfold ringStep turnStep partStep at hst
                  simp [hne, hp, hr, hkb] at hst
                  rw [hu] at hst
                  have Hu := Lib.hid hu
                  clear hu
                  have Hst := Lib.hid hst
                  clear Hinv hst hp hr hkb hk0
                  generalize row cl k = x at *
                  generalize row cl j = y at *
                  generalize row r k = z at *
                  generalize row T j = t at *
                  generalize row Q k = s at *
                  have CHp := Lib.hid (fun V => BitW_is x j false V (by omega) (by omega) Hp.out)
                  have CHr := Lib.hid (fun V => BitW_is z j true V (by omega) (by omega) Hr.out)
                  have CHu := Lib.hid (fun V => With_is t k u V (by omega) (by omega) Hu.out)
                  clear Hp Hr Hu
                  go_wp2_with (first | (go_at_call 21; with_reducible refine (CHp.out _).mono ?_; rintro e w' ⟨rfl, rfl⟩) | (go_at_call 21; with_reducible refine (CHr.out _).mono ?_; rintro e w' ⟨rfl, rfl⟩) | (go_at_call 22; with_reducible refine (CHu.out _).mono ?_; rintro e w' ⟨rfl, rfl⟩))
                  refine ⟨⟨j + 1, ring, (T.set j u), Q, ?ya, ?yb, rfl, ?yd, ?ye, ?yf, Hst⟩, ?yh⟩
                  case ya => omega
                  case yb => simp
                  case yh => simp [intOf]; omega
                  case yd => rw [map_set_cast]; exact ho1.set (by simp [castL]; omega) _
                  case ye => exact ho2.other hne2 _
                  case yf => exact hbw.setCell (Nat.le_refl _) _
            | true =>
              have Hp := Lib.hid hp
              cases hq : (row cl j).testBit k with
              | false =>
                have Hq := Lib.hid hq
                cases hr : (row r k).testBit j with
                | false =>
                  have Hr := Lib.hid hr
                  have hst := Hinv.out.step hlt hltj
                  unfold ringStep turnStep partStep at hst
                  simp [hne, hp, hq, hr] at hst
                  have Hst := Lib.hid hst
                  clear Hinv hst hp hq hr
                  generalize row cl k = x at *
                  generalize row cl j = y at *
                  generalize row r k = z at *
                  generalize row Q k = s at *
                  have CHp := Lib.hid (fun V => BitW_is x j true V (by omega) (by omega) Hp.out)
                  have CHq := Lib.hid (fun V => BitW_is y k false V (by omega) (by omega) Hq.out)
                  have CHr := Lib.hid (fun V => BitW_is z j false V (by omega) (by omega) Hr.out)
                  clear Hp Hq Hr
                  go_wp2_with (first | (go_at_call 21; with_reducible refine (CHp.out _).mono ?_; rintro e w' ⟨rfl, rfl⟩) | (go_at_call 21; with_reducible refine (CHq.out _).mono ?_; rintro e w' ⟨rfl, rfl⟩) | (go_at_call 21; with_reducible refine (CHr.out _).mono ?_; rintro e w' ⟨rfl, rfl⟩))
                  refine ⟨⟨j + 1, ring, T, Q, ?ya, ?yb, rfl, ?yd, ?ye, ?yf, Hst⟩, ?yh⟩
                  case ya => omega
                  case yb => simp
                  case yh => simp [intOf]; omega
                  case yd => exact ho1
                  case ye => exact ho2
                  case yf => exact hbw
                | true =>
                  have Hr := Lib.hid hr
                  obtain ⟨u, hu⟩ : ∃ u, row T j ||| 2 ^ k = u := ⟨_, rfl⟩
                  by_cases hk0 : 0 ≤ keep
                  · have Hk0 := Lib.hid hk0
                    have hge : decide (keep ≥ 0) = true := by simpa using hk0
                    cases hkt : keep.toNat.testBit j with
                    | false =>
                      have Hk := Lib.hid hkt
                      have hkb : kb j = false := by rw [Hkb.out, hkt]; simp
                      have hst := Hinv.out.step hlt hltj
                      unfold ringStep turnStep partStep at hst
                      simp [hne, hp, hq, hr, hkb] at hst
                      rw [hu] at hst
                      have Hu := Lib.hid hu
                      clear hu
                      have Hst := Lib.hid hst
                      clear Hinv hst hp hq hr hkb hk0 hkt
                      generalize row cl k = x at *
                      generalize row cl j = y at *
                      generalize row r k = z at *
                      generalize row T j = t at *
                      generalize row Q k = s at *
                      have CHp := Lib.hid (fun V => BitW_is x j true V (by omega) (by omega) Hp.out)
                      have CHq := Lib.hid (fun V => BitW_is y k false V (by omega) (by omega) Hq.out)
                      have CHr := Lib.hid (fun V => BitW_is z j true V (by omega) (by omega) Hr.out)
                      have CHu := Lib.hid (fun V => With_is t k u V (by omega) (by omega) Hu.out)
                      have CHk := Lib.hid (fun V => BitI_is keep j false V Hk0.out Hkeep.out (by omega) Hk.out)
                      clear Hp Hq Hr Hu Hk
                      go_wp2_with (first | (go_at_call 21; with_reducible refine (CHp.out _).mono ?_; rintro e w' ⟨rfl, rfl⟩) | (go_at_call 21; with_reducible refine (CHq.out _).mono ?_; rintro e w' ⟨rfl, rfl⟩) | (go_at_call 21; with_reducible refine (CHr.out _).mono ?_; rintro e w' ⟨rfl, rfl⟩) | (go_at_call 22; with_reducible refine (CHu.out _).mono ?_; rintro e w' ⟨rfl, rfl⟩) | (go_at_call 21; with_reducible refine (CHk.out _).mono ?_; rintro e w' ⟨rfl, rfl⟩))
                      refine ⟨⟨j + 1, ring, (T.set j u), Q, ?ya, ?yb, rfl, ?yd, ?ye, ?yf, Hst⟩, ?yh⟩
                      case ya => omega
                      case yb => simp
                      case yh => simp [intOf]; omega
                      case yd => rw [map_set_cast]; exact ho1.set (by simp [castL]; omega) _
                      case ye => exact ho2.other hne2 _
                      case yf => exact hbw.setCell (Nat.le_refl _) _
                    | true =>
                      have Hk := Lib.hid hkt
                      have hkb : kb j = true := by rw [Hkb.out, hkt]; simp [hk0]
                      obtain ⟨v, hv⟩ : ∃ v, row Q k ||| 2 ^ j = v := ⟨_, rfl⟩
                      have hst := Hinv.out.step hlt hltj
                      unfold ringStep turnStep partStep at hst
                      simp [hne, hp, hq, hr, hkb] at hst
                      rw [hu] at hst
                      have Hu := Lib.hid hu
                      clear hu
                      rw [hv] at hst
                      have Hv := Lib.hid hv
                      clear hv
                      have Hst := Lib.hid hst
                      clear Hinv hst hp hq hr hkb hk0 hkt
                      generalize row cl k = x at *
                      generalize row cl j = y at *
                      generalize row r k = z at *
                      generalize row T j = t at *
                      generalize row Q k = s at *
                      have CHp := Lib.hid (fun V => BitW_is x j true V (by omega) (by omega) Hp.out)
                      have CHq := Lib.hid (fun V => BitW_is y k false V (by omega) (by omega) Hq.out)
                      have CHr := Lib.hid (fun V => BitW_is z j true V (by omega) (by omega) Hr.out)
                      have CHu := Lib.hid (fun V => With_is t k u V (by omega) (by omega) Hu.out)
                      have CHk := Lib.hid (fun V => BitI_is keep j true V Hk0.out Hkeep.out (by omega) Hk.out)
                      have CHv := Lib.hid (fun V => With_is s j v V (by omega) (by omega) Hv.out)
                      clear Hp Hq Hr Hu Hk Hv
                      go_wp2_with (first | (go_at_call 21; with_reducible refine (CHp.out _).mono ?_; rintro e w' ⟨rfl, rfl⟩) | (go_at_call 21; with_reducible refine (CHq.out _).mono ?_; rintro e w' ⟨rfl, rfl⟩) | (go_at_call 21; with_reducible refine (CHr.out _).mono ?_; rintro e w' ⟨rfl, rfl⟩) | (go_at_call 22; with_reducible refine (CHu.out _).mono ?_; rintro e w' ⟨rfl, rfl⟩) | (go_at_call 21; with_reducible refine (CHk.out _).mono ?_; rintro e w' ⟨rfl, rfl⟩) | (go_at_call 22; with_reducible refine (CHv.out _).mono ?_; rintro e w' ⟨rfl, rfl⟩))
                      refine ⟨⟨j + 1, ring, (T.set j u), (Q.set k v), ?ya, ?yb, rfl, ?yd, ?ye, ?yf, Hst⟩, ?yh⟩
                      case ya => omega
                      case yb => simp
                      case yh => simp [intOf]; omega
                      case yd => rw [map_set_cast]; exact (ho1.set (by simp [castL]; omega) _).other hne1 _
                      case ye => rw [map_set_cast]; exact (ho2.other hne2 _).set (by simp [castL]; omega) _
                      case yf => exact (hbw.setCell (Nat.le_refl _) _).setCell (p := ⟨w4.heap.size, k, none⟩) (Nat.le_of_lt hlt12) _
                  · have hkb : kb j = false := by rw [Hkb.out]; simp [hk0]
                    have hge : decide (keep ≥ 0) = false := by simpa using hk0
                    have hst := Hinv.out.step hlt hltj
                    unfold ringStep turnStep partStep at hst
                    simp [hne, hp, hq, hr, hkb] at hst
                    rw [hu] at hst
                    have Hu := Lib.hid hu
                    clear hu
                    have Hst := Lib.hid hst
                    clear Hinv hst hp hq hr hkb hk0
                    generalize row cl k = x at *
                    generalize row cl j = y at *
                    generalize row r k = z at *
                    generalize row T j = t at *
                    generalize row Q k = s at *
                    have CHp := Lib.hid (fun V => BitW_is x j true V (by omega) (by omega) Hp.out)
                    have CHq := Lib.hid (fun V => BitW_is y k false V (by omega) (by omega) Hq.out)
                    have CHr := Lib.hid (fun V => BitW_is z j true V (by omega) (by omega) Hr.out)
                    have CHu := Lib.hid (fun V => With_is t k u V (by omega) (by omega) Hu.out)
                    clear Hp Hq Hr Hu
                    go_wp2_with (first | (go_at_call 21; with_reducible refine (CHp.out _).mono ?_; rintro e w' ⟨rfl, rfl⟩) | (go_at_call 21; with_reducible refine (CHq.out _).mono ?_; rintro e w' ⟨rfl, rfl⟩) | (go_at_call 21; with_reducible refine (CHr.out _).mono ?_; rintro e w' ⟨rfl, rfl⟩) | (go_at_call 22; with_reducible refine (CHu.out _).mono ?_; rintro e w' ⟨rfl, rfl⟩))
                    refine ⟨⟨j + 1, ring, (T.set j u), Q, ?ya, ?yb, rfl, ?yd, ?ye, ?yf, Hst⟩, ?yh⟩
                    case ya => omega
                    case yb => simp
                    case yh => simp [intOf]; omega
                    case yd => rw [map_set_cast]; exact ho1.set (by simp [castL]; omega) _
                    case ye => exact ho2.other hne2 _
                    case yf => exact hbw.setCell (Nat.le_refl _) _
              | true =>
                have Hq := Lib.hid hq
                cases hr : (row r k).testBit j with
                | false =>
                  have Hr := Lib.hid hr
                  have hst := Hinv.out.step hlt hltj
                  unfold ringStep turnStep partStep at hst
                  simp [hne, hp, hq, hr] at hst
                  have Hst := Lib.hid hst
                  clear Hinv hst hp hq hr
                  generalize row cl k = x at *
                  generalize row cl j = y at *
                  generalize row r k = z at *
                  generalize row Q k = s at *
                  have CHp := Lib.hid (fun V => BitW_is x j true V (by omega) (by omega) Hp.out)
                  have CHq := Lib.hid (fun V => BitW_is y k true V (by omega) (by omega) Hq.out)
                  have CHr := Lib.hid (fun V => BitW_is z j false V (by omega) (by omega) Hr.out)
                  clear Hp Hq Hr
                  go_wp2_with (first | (go_at_call 21; with_reducible refine (CHp.out _).mono ?_; rintro e w' ⟨rfl, rfl⟩) | (go_at_call 21; with_reducible refine (CHq.out _).mono ?_; rintro e w' ⟨rfl, rfl⟩) | (go_at_call 21; with_reducible refine (CHr.out _).mono ?_; rintro e w' ⟨rfl, rfl⟩))
                  refine ⟨⟨j + 1, true, T, Q, ?ya, ?yb, rfl, ?yd, ?ye, ?yf, Hst⟩, ?yh⟩
                  case ya => omega
                  case yb => simp
                  case yh => simp [intOf]; omega
                  case yd => exact ho1
                  case ye => exact ho2
                  case yf => exact hbw
                | true =>
                  have Hr := Lib.hid hr
                  obtain ⟨u, hu⟩ : ∃ u, row T j ||| 2 ^ k = u := ⟨_, rfl⟩
                  by_cases hk0 : 0 ≤ keep
                  · have Hk0 := Lib.hid hk0
                    have hge : decide (keep ≥ 0) = true := by simpa using hk0
                    cases hkt : keep.toNat.testBit j with
                    | false =>
                      have Hk := Lib.hid hkt
                      have hkb : kb j = false := by rw [Hkb.out, hkt]; simp
                      have hst := Hinv.out.step hlt hltj
                      unfold ringStep turnStep partStep at hst
                      simp [hne, hp, hq, hr, hkb] at hst
                      rw [hu] at hst
                      have Hu := Lib.hid hu
                      clear hu
                      have Hst := Lib.hid hst
                      clear Hinv hst hp hq hr hkb hk0 hkt
                      generalize row cl k = x at *
                      generalize row cl j = y at *
                      generalize row r k = z at *
                      generalize row T j = t at *
                      generalize row Q k = s at *
                      have CHp := Lib.hid (fun V => BitW_is x j true V (by omega) (by omega) Hp.out)
                      have CHq := Lib.hid (fun V => BitW_is y k true V (by omega) (by omega) Hq.out)
                      have CHr := Lib.hid (fun V => BitW_is z j true V (by omega) (by omega) Hr.out)
                      have CHu := Lib.hid (fun V => With_is t k u V (by omega) (by omega) Hu.out)
                      have CHk := Lib.hid (fun V => BitI_is keep j false V Hk0.out Hkeep.out (by omega) Hk.out)
                      clear Hp Hq Hr Hu Hk
                      go_wp2_with (first | (go_at_call 21; with_reducible refine (CHp.out _).mono ?_; rintro e w' ⟨rfl, rfl⟩) | (go_at_call 21; with_reducible refine (CHq.out _).mono ?_; rintro e w' ⟨rfl, rfl⟩) | (go_at_call 21; with_reducible refine (CHr.out _).mono ?_; rintro e w' ⟨rfl, rfl⟩) | (go_at_call 22; with_reducible refine (CHu.out _).mono ?_; rintro e w' ⟨rfl, rfl⟩) | (go_at_call 21; with_reducible refine (CHk.out _).mono ?_; rintro e w' ⟨rfl, rfl⟩))
                      refine ⟨⟨j + 1, true, (T.set j u), Q, ?ya, ?yb, rfl, ?yd, ?ye, ?yf, Hst⟩, ?yh⟩
                      case ya => omega
                      case yb => simp
                      case yh => simp [intOf]; omega
                      case yd => rw [map_set_cast]; exact ho1.set (by simp [castL]; omega) _
                      case ye => exact ho2.other hne2 _
                      case yf => exact hbw.setCell (Nat.le_refl _) _
                    | true =>
                      have Hk := Lib.hid hkt
                      have hkb : kb j = true := by rw [Hkb.out, hkt]; simp [hk0]
                      obtain ⟨v, hv⟩ : ∃ v, row Q k ||| 2 ^ j = v := ⟨_, rfl⟩
                      have hst := Hinv.out.step hlt hltj
                      unfold ringStep turnStep partStep at hst
                      simp [hne, hp, hq, hr, hkb] at hst
                      rw [hu] at hst
                      have Hu := Lib.hid hu
                      clear hu
                      rw [hv] at hst
                      have Hv := Lib.hid hv
                      clear hv
                      have Hst := Lib.hid hst
                      clear Hinv hst hp hq hr hkb hk0 hkt
                      generalize row cl k = x at *
                      generalize row cl j = y at *
                      generalize row r k = z at *
                      generalize row T j = t at *
                      generalize row Q k = s at *
                      have CHp := Lib.hid (fun V => BitW_is x j true V (by omega) (by omega) Hp.out)
                      have CHq := Lib.hid (fun V => BitW_is y k true V (by omega) (by omega) Hq.out)
                      have CHr := Lib.hid (fun V => BitW_is z j true V (by omega) (by omega) Hr.out)
                      have CHu := Lib.hid (fun V => With_is t k u V (by omega) (by omega) Hu.out)
                      have CHk := Lib.hid (fun V => BitI_is keep j true V Hk0.out Hkeep.out (by omega) Hk.out)
                      have CHv := Lib.hid (fun V => With_is s j v V (by omega) (by omega) Hv.out)
                      clear Hp Hq Hr Hu Hk Hv
                      go_wp2_with (first | (go_at_call 21; with_reducible refine (CHp.out _).mono ?_; rintro e w' ⟨rfl, rfl⟩) | (go_at_call 21; with_reducible refine (CHq.out _).mono ?_; rintro e w' ⟨rfl, rfl⟩) | (go_at_call 21; with_reducible refine (CHr.out _).mono ?_; rintro e w' ⟨rfl, rfl⟩) | (go_at_call 22; with_reducible refine (CHu.out _).mono ?_; rintro e w' ⟨rfl, rfl⟩) | (go_at_call 21; with_reducible refine (CHk.out _).mono ?_; rintro e w' ⟨rfl, rfl⟩) | (go_at_call 22; with_reducible refine (CHv.out _).mono ?_; rintro e w' ⟨rfl, rfl⟩))
                      refine ⟨⟨j + 1, true, (T.set j u), (Q.set k v), ?ya, ?yb, rfl, ?yd, ?ye, ?yf, Hst⟩, ?yh⟩
                      case ya => omega
                      case yb => simp
                      case yh => simp [intOf]; omega
                      case yd => rw [map_set_cast]; exact (ho1.set (by simp [castL]; omega) _).other hne1 _
                      case ye => rw [map_set_cast]; exact (ho2.other hne2 _).set (by simp [castL]; omega) _
                      case yf => exact (hbw.setCell (Nat.le_refl _) _).setCell (p := ⟨w4.heap.size, k, none⟩) (Nat.le_of_lt hlt12) _
                  · have hkb : kb j = false := by rw [Hkb.out]; simp [hk0]
                    have hge : decide (keep ≥ 0) = false := by simpa using hk0
                    have hst := Hinv.out.step hlt hltj
                    unfold ringStep turnStep partStep at hst
                    simp [hne, hp, hq, hr, hkb] at hst
                    rw [hu] at hst
                    have Hu := Lib.hid hu
                    clear hu
                    have Hst := Lib.hid hst
                    clear Hinv hst hp hq hr hkb hk0
                    generalize row cl k = x at *
                    generalize row cl j = y at *
                    generalize row r k = z at *
                    generalize row T j = t at *
                    generalize row Q k = s at *
                    have CHp := Lib.hid (fun V => BitW_is x j true V (by omega) (by omega) Hp.out)
                    have CHq := Lib.hid (fun V => BitW_is y k true V (by omega) (by omega) Hq.out)
                    have CHr := Lib.hid (fun V => BitW_is z j true V (by omega) (by omega) Hr.out)
                    have CHu := Lib.hid (fun V => With_is t k u V (by omega) (by omega) Hu.out)
                    clear Hp Hq Hr Hu
                    go_wp2_with (first | (go_at_call 21; with_reducible refine (CHp.out _).mono ?_; rintro e w' ⟨rfl, rfl⟩) | (go_at_call 21; with_reducible refine (CHq.out _).mono ?_; rintro e w' ⟨rfl, rfl⟩) | (go_at_call 21; with_reducible refine (CHr.out _).mono ?_; rintro e w' ⟨rfl, rfl⟩) | (go_at_call 22; with_reducible refine (CHu.out _).mono ?_; rintro e w' ⟨rfl, rfl⟩))
                    refine ⟨⟨j + 1, true, (T.set j u), Q, ?ya, ?yb, rfl, ?yd, ?ye, ?yf, Hst⟩, ?yh⟩
                    case ya => omega
                    case yb => simp
                    case yh => simp [intOf]; omega
                    case yd => rw [map_set_cast]; exact ho1.set (by simp [castL]; omega) _
                    case ye => exact ho2.other hne2 _
                    case yf => exact hbw.setCell (Nat.le_refl _) _
        · obtain rfl : j = n := by omega
          go_wp2_with fail
          refine ⟨⟨k + 1, ring, T, Q, by omega, by go_num, rfl, ho1, ho2, hbw, Hinv.out.next⟩, by simp [intOf]; omega⟩
    · obtain rfl : k = n := by omega
      have hf := Hfin.out kb ring T Q Hinv.out
      have hTl := Hinv.out.lt
      have hQl := Hinv.out.lq
      have co1 := fun (V : World) (hV : IntsAt V (some ⟨w3.heap.size, 0, none⟩) (castL T)) (hTV : Tab V) => Order_ok T (by omega) (by rw [hTl]; exact Hinv.out.tb) _ k V hV hTV
      have co2 := fun (V : World) (hV : IntsAt V (some ⟨w4.heap.size, 0, none⟩) (castL Q)) (hTV : Tab V) => Order_ok Q (by omega) (by rw [hQl]; exact Hinv.out.qb) _ k V hV hTV
      rw [hTl, hf.2.1] at co1
      rw [hQl] at co2
      obtain ⟨hring, _, hpart⟩ := hf
      have CO1 := Lib.hid co1
      have hTr := hT3.next hbw
      clear co1 Hinv
      obtain ⟨y, hy⟩ : ∃ y, orderB (closed Q) = y := ⟨_, rfl⟩
      rw [hy] at co2 hpart
      have CO2 := Lib.hid co2
      clear co2 hy Hfin
      have fin : Below w.heap.size w wr := hbl3.trans (hbw.mono hbl3.size)
      cases is with
      | false =>
        simp at hring
        subst hring
        clear hpart
        go_wp2_with fail
        refine (CO1.out _ ho1.ints hTr).mono ?_
        rintro e w6 ⟨rfl, hb6⟩
        go_wp2_with fail
        refine (CO2.out _ (ho2.ints.below hb6) (hTr.next hb6)).mono ?_
        rintro e w7 ⟨rfl, hb7⟩
        go_wp2_with fail
        go_ret
        exact ⟨rfl, (fin.trans (hb6.mono fin.size)).trans (hb7.mono (Nat.le_trans fin.size hb6.size))⟩
      | true =>
        simp at hring
        subst hring
        obtain rfl := hpart rfl
        go_wp2_with fail
        refine (CO1.out _ ho1.ints hTr).mono ?_
        rintro e w6 ⟨rfl, hb6⟩
        go_wp2_with fail
        refine (CO2.out _ (ho2.ints.below hb6) (hTr.next hb6)).mono ?_
        rintro e w7 ⟨rfl, hb7⟩
        go_wp2_with fail
        go_ret
        exact ⟨rfl, (fin.trans (hb6.mono fin.size)).trans (hb7.mono (Nat.le_trans fin.size hb6.size))⟩

theorem RelOrder_bad (l : List Int) (hl : l.length < 2 ^ 60) (hbad : relCode l ≠ 0) (keep : Int) (A : Option Addr) (c : Nat) (w : World) (h : IntsAt w A l) :
    Calls Tryd.prog 4 #[.slice A l.length c, .int .i64 keep] w fun e w' => e = .returned (.bool true) ∧ Below w.heap.size w w' := by
  have Ho := Lib.hid (fun (W : World) (hW : IntsAt W A l) => Order_bad l A c W hW hl hbad)
  have Hc := Lib.hid (fun (W : World) (hW : IntsAt W A l) => Closure_bad l A c W hW hl hbad)
  clear hl hbad
  generalize l.length = n at *
  generalize relCode l = m at *
  go_enter Tryd.func4, Tryd.ntmps4
  go_wp2_with (go_at_call 18; refine (relFact_any _).mono ?_; rintro e w1 ⟨rfl, hb1⟩)
  have h1 := h.below hb1
  refine (Ho.out w1 h1).mono ?_
  rintro e w2 ⟨rfl, hb2⟩
  have h2 := h1.below hb2
  have hbl2 := hb1.trans (hb2.mono hb1.size)
  clear h h1 hb1 hb2
  go_wp2_with fail
  refine (Hc.out w2 h2).mono ?_
  rintro e w3 ⟨rfl, rfl⟩
  go_wp2_with fail
  go_ret
  exact ⟨rfl, hbl2⟩

theorem RelOrder_walk (l : List Int) (A : Option Addr) (c : Nat) {W : World} (h : IntsAt W A l) (hl : l.length < 2 ^ 47) (hI : ∀ x ∈ l, I64 x) (keep : Int) (hk : I64 keep) (w : World) (hw : w = W) (hT : Tab W) :
    Calls Tryd.prog 4 #[.slice A l.length c, .int .i64 keep] w fun e w' => e = .returned (.bool true) ∧ Below w.heap.size w w' := by
  subst hw
  by_cases hcode : relCode l = 0
  · obtain ⟨r, rfl, h12, hb⟩ := relCode_ok hcode
    have := RelOrder_ok r h12 hb keep (by have := hk.2; omega) A c w h hT
    rw [length_castL]
    exact this
  · exact RelOrder_bad l (by omega) hcode keep A c w h
end Go.Proofs.YtbdochaahbpabaaDoor
