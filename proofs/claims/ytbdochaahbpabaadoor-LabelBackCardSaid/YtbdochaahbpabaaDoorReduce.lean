/-
  Contract: rel.Reduce of an order.
-/
import Derived.Test.YtbdochaahbpabaaDoorRedLaw
import Derived.Test.YtbdochaahbpabaaDoorTurned
import Derived.Test.YtbdochaahbpabaaDoorTail
namespace Go.Proofs.YtbdochaahbpabaaDoor
open Go.RowKit
attribute [local go_sem] Oper.semAt_some
attribute [local simp, local go_sem] wide_fn
set_option maxRecDepth 100000
set_option linter.unusedVariables false

/-- What out holds: the rows done, one under way. -/
structure RdInv (c : List Nat) (n k : Nat) (D : List Nat) : Prop where
  len : D.length = n
  bd : Bd n D
  done : ∀ i, i < k → row D i = redRow c i
theorem RdInv.set {c D : List Nat} {n k x : Nat} (h : RdInv c n k D) (hk : k < n) (hx : x < 2 ^ n) : RdInv c n k (D.set k x) where
  len := by simp [h.len]
  bd := h.bd.set _ _ hx
  done i hi := by rw [row_set _ _ _ _ (by rw [h.len]; exact hk), if_neg (by omega)]; exact h.done i hi
theorem RdInv.next {c D : List Nat} {n k : Nat} (h : RdInv c n k D) (hr : row D k = redRow c k) : RdInv c n (k + 1) D where
  len := h.len
  bd := h.bd
  done i hi := by
    rcases Nat.lt_or_ge i k with h1 | h1
    · exact h.done i h1
    · obtain rfl : i = k := by omega
      exact hr
theorem RdInv.fin {c D : List Nat} {n : Nat} (hc : c.length = n) (h : RdInv c n n D) : D = reduceL c := by
  refine row_ext (by rw [h.len, length_reduceL, hc]) fun i hi => ?_
  rw [h.len] at hi
  rw [h.done i hi, row_reduceL (by omega)]
theorem wrap_pow (k : Nat) (h : k < 62) : IntKind.i64.wrap (2 ^ k) = ((2 ^ k : Nat) : Int) := by
  have h0 := two_pow_lt k h
  have h1 : (0 : Int) < 2 ^ k := Int.pow_pos (by decide)
  rw [IntKind.wrap_i64]; push_cast; omega

theorem made_facts {w2 w3 : World} {v : Value} {t : TypeId} {n : Nat} (hown : w3.ownsRow 0 3 1 (.slice (some ⟨(w2.alloc (.cells #[v] t)).heap.size, 0, none⟩) n n) n (madeCells (Value.int .i64 0).cells (n * 1)).toList)
    (hgr : (w2.alloc (.cells #[v] t)).grownBy w3 none) : BoxN w3 w2.heap.size t #[v] ∧ w3.cell? ⟨w2.heap.size, 0, none⟩ = some v ∧ w2.heap.size + 1 < w3.heap.size ∧ w2.heap.size < w3.heap.size := by
  have hbx := (BoxN.new w2 t #[v]).own hgr (fun r e => by cases e)
  have h1 := (made_ints hown).lt
  have h2 : w2.heap.size + 1 < w3.heap.size := by simpa using h1
  exact ⟨hbx, hbx.cell rfl, h2, by omega⟩

set_option maxHeartbeats 4000000 in
theorem Reduce_ok (r : List Nat) (hlen : r.length ≤ 12) (hb : Bd r.length r) (ho : orderB (closed r) = true) (A : Option Addr) (c : Nat) (w : World) (h : IntsAt w A (castL r)) (hT : Tab w) :
    Calls Tryd.prog 25 #[.slice A r.length c] w fun e w' => ∃ B c', e = .returned (.tuple #[.slice B r.length c', .nilIface]) ∧ IntsAt w' B (castL (reduceL (closed r))) ∧ Below w.heap.size w w' := by
  refine (callsIn_wide (n := 8)).1 ?_
  have hg := hT.lt
  have hO := Order_ok r hlen hb A c w h hT
  rw [ho] at hO
  have HO := Lib.hid hO
  have HC := Lib.hid (fun (V : World) (hV : IntsAt V A (castL r)) => closed_all r hlen hb A c V hV)
  have hcb := closed_lt r hb
  have hcn := length_closed r
  have Hfin := Lib.hid (show reduceL (closed r) = (List.range (closed r).length).map (redRow (closed r)) from rfl)
  clear hO ho hb
  generalize closed r = cl at *
  generalize r.length = n at *
  have Hb := Lib.hid hcb
  have Hu := Lib.hid hcn
  clear hcb hcn
  obtain ⟨ti, hi, hz0, hz1, hz2⟩ := info_parts intInfo
  refine callsIn_of_wp_marks Tryd.func25 rfl trivial ?_ rfl
  simp only [Tryd.ntmps25, List.size_toArray, List.length_cons, List.length_nil, Nat.reduceAdd, Nat.reduceSub, Array.replicate_succ, Array.replicate_zero, List.push_toArray, List.append_toArray, List.nil_append, List.cons_append]
  gi_wp2_with fail
  refine (callsIn_wide.2 HO.out).mono ?_
  rintro e w1 ⟨rfl, hb1⟩
  gi_wp2_with fail
  refine (callsIn_wide.2 (HC.out w1 (h.below hb1))).mono ?_
  rintro e w2 ⟨B, c', rfl, hi2, hb2⟩
  have hbl2 := hb1.trans (hb2.mono hb1.size)
  clear HO HC hb1 hb2
  gi_wp2_with (gi_at_make; refine wpListIn_make_full _ rfl _ _ 30 rfl 0 3 ti _ 1 Tryd.underlying30 hi hz0 hz1 _ _ _ _ n rfl rfl rfl rfl (by rw [hz2]; omega) (by unfold maxLen; omega) (Nat.zero_le _) ?_; intro w3 hown hgr; obtain ⟨hbx, hx6, hlt3, hlt4⟩ := made_facts hown hgr)
  have ho3 := (made_ints hown).alloc (.cells #[.slice (some ⟨w2.heap.size + 1, 0, none⟩) n n] 30)
  have hbl3 : Below w2.heap.size w2 (w3.alloc (.cells #[.slice (some ⟨w2.heap.size + 1, 0, none⟩) n n] 30)) := (((Below.refl _ w2).alloc (Nat.le_refl _) _).grown hgr (by simp) (by simp)).alloc (by omega) _
  have hbo3 := BoxN.new w3 30 #[.slice (some ⟨w2.heap.size + 1, 0, none⟩) n n]
  have hbx3 := hbx.alloc (.cells #[.slice (some ⟨w2.heap.size + 1, 0, none⟩) n n] 30)
  have hge : w2.heap.size + 1 = (w2.alloc (.cells #[.slice B n c'] 30)).heap.size := by simp
  rw [← hge] at ho3
  clear hown hgr hge hx6 hbx
  obtain ⟨g, hgd⟩ : ∃ g, w2.heap.size + 1 = g := ⟨_, rfl⟩
  obtain ⟨pc, hpc⟩ : ∃ p, w2.heap.size = p := ⟨_, rfl⟩
  obtain ⟨po, hpo⟩ : ∃ p, w3.heap.size = p := ⟨_, rfl⟩
  have hgpc : pc < g := by omega
  have hgpo : g < po := by omega
  rw [hgd] at ho3 hbl3 hbo3 hbx3 ⊢
  rw [hpo] at hbo3 ⊢
  rw [hpc] at hbx3 hbl3 ⊢
  generalize w3.alloc (.cells #[.slice (some ⟨g, 0, none⟩) n n] 30) = w4 at *
  clear hlt3 hlt4 hgd hpo
  have Hpc := Lib.hid hpc
  clear hpc
  refine wpIn_loop_marks (Ds := []) [30, 31, 8, 32, 33, 34, 35, 36, 37, 38, 9, 39, 40, 41, 42, 43, 44, 59, 29]
    (fun v Ds W => ∃ k : Nat, v 29 = .int .i64 k ∧ k ≤ n ∧ BoxN W pc 30 #[.slice B n c'] ∧ BoxN W po 30 #[.slice (some ⟨g, 0, none⟩) n n] ∧ Below pc w2 W ∧ MarksAt pc W Ds ∧ ∃ D, OwnAt W g 3 ((castL D).map (Value.int .i64)) ∧ Hid (RdInv cl n k D))
    (fun v _ => n - (intOf (v 29)).toNat) ⟨0, rfl, by omega, hbx3, hbo3, hbl3, MarksAt.nil, _, ho3, ?start⟩ ?_
  case start => exact ⟨by simp, fun i => by rw [row_replicate]; exact Nat.two_pow_pos n, fun i hi => by omega⟩
  rintro us Ds W hus ⟨k, hk, hkn, hXc, hXo, hblW, hM, D, hoD, Hinv⟩
  obtain ⟨u0, us0, rfl, hus0⟩ := cons_of_len hus
  obtain ⟨u1, us1, rfl, hus1⟩ := cons_of_len hus0
  obtain ⟨u2, us2, rfl, hus2⟩ := cons_of_len hus1
  obtain ⟨u3, us3, rfl, hus3⟩ := cons_of_len hus2
  obtain ⟨u4, us4, rfl, hus4⟩ := cons_of_len hus3
  obtain ⟨u5, us5, rfl, hus5⟩ := cons_of_len hus4
  obtain ⟨u6, us6, rfl, hus6⟩ := cons_of_len hus5
  obtain ⟨u7, us7, rfl, hus7⟩ := cons_of_len hus6
  obtain ⟨u8, us8, rfl, hus8⟩ := cons_of_len hus7
  obtain ⟨u9, us9, rfl, hus9⟩ := cons_of_len hus8
  obtain ⟨u10, us10, rfl, hus10⟩ := cons_of_len hus9
  obtain ⟨u11, us11, rfl, hus11⟩ := cons_of_len hus10
  obtain ⟨u12, us12, rfl, hus12⟩ := cons_of_len hus11
  obtain ⟨u13, us13, rfl, hus13⟩ := cons_of_len hus12
  obtain ⟨u14, us14, rfl, hus14⟩ := cons_of_len hus13
  obtain ⟨u15, us15, rfl, hus15⟩ := cons_of_len hus14
  obtain ⟨u16, us16, rfl, hus16⟩ := cons_of_len hus15
  obtain ⟨u17, us17, rfl, hus17⟩ := cons_of_len hus16
  obtain ⟨u18, us18, rfl, hus18⟩ := cons_of_len hus17
  obtain rfl : us18 = [] := List.length_eq_zero_iff.1 hus18
  clear hus hus0 hus1 hus2 hus3 hus4 hus5 hus6 hus7 hus8 hus9 hus10 hus11 hus12 hus13 hus14 hus15 hus16 hus17 hus18
  simp only [patchL, List.set_cons_succ, List.set_cons_zero, valL, List.getD_cons_succ, List.getD_cons_zero] at hk ⊢
  subst hk
  clear hbx3 hbo3 hbl3 ho3
  have hszW := hblW.size
  have hpcg : w2.heap.size = pc := Hpc.out
  have hpcW : pc ≤ W.heap.size := by omega
  have hg3 : 2 + 1 ≤ g := by have := hbl2.size; omega
  have hTW : Tab W := (hT.next hbl2).below (B := pc) hblW (by have := hbl2.size; omega)
  rcases Nat.lt_or_ge k n with hkn' | hkn'
  · have hiW : IntsAt W B (castL cl) := hi2.keep (fun q hq => hblW.cell (by omega))
    obtain ⟨b, off, rfl, hcx⟩ := hiW.row (k := k) (by rw [Hu.out]; exact hkn')
    have hltb : b < W.heap.size := block_lt hcx
    have hrk : row cl k < 2 ^ 12 := Nat.lt_of_lt_of_le (Hb.out k) (Nat.pow_le_pow_right (by decide) hlen)
    have hp2 : 2 ^ k < 2 ^ 62 := Nat.pow_lt_pow_right (by decide) (by omega)
    have hbits : bits .andNot .i64 ((row cl k : Nat) : Int) (wrap64 (2 ^ k)) = ((aboveOf cl k : Nat) : Int) := by
      rw [wrap64_pow k (by omega)]; exact bits_andNot_nat _ _ (by omega) hp2
    have hlc := hXc.lt
    have hlo := hXo.lt
    have hlg := hoD.lt
    have hcc : W.cell? ⟨pc, 0, none⟩ = some (.slice (some ⟨b, off, none⟩) n c') := hXc.cell rfl
    have hco : W.cell? ⟨po, 0, none⟩ = some (.slice (some ⟨g, 0, none⟩) n n) := hXo.cell rfl
    have hcg : W.cell? ⟨g, k, none⟩ = some (.int .i64 (row D k : Nat)) := hoD.cell (get_cast_val D k (by have := Hinv.out.len; omega))
    have hfg := hoD.free k
    have hab : aboveOf cl k < 2 ^ n := diff_lt (Hb.out k)
    have hmix : Tryd.prog.follows .mixedOrders = true := by kernel_rfl
    have Hpcg := Lib.hid hpcg
    clear hpcg
    gi_wp2_with fail
    gi_quiet (fail)
    gi_wp2_with fail
    refine (callsIn_wide.2 (Bits_any (aboveOf cl k) _)).mono ?_
    rintro e w5 ⟨rfl, rfl⟩
    gi_wp2_with fail
    have hX1 : Below W.heap.size W ((W.alloc (.cells #[.int .i64 k] 3)).drewN nq) := below_drewN ((Below.refl _ W).alloc (Nat.le_refl _) _) nq
    have hoX : OwnAt ((((W.alloc (.cells #[.int .i64 k] 3)).drewN nq).setCell ⟨g, k, none⟩ (.int .i64 (aboveOf cl k : Nat))).alloc (.cells #[.int .i64 (aboveOf cl k : Nat)] 3)) g 3 ((castL (D.set k (aboveOf cl k))).map (Value.int .i64)) := by
      rw [map_set_cast]
      exact (((hoD.below hX1 hlg)).set (by simp [castL]; have := Hinv.out.len; omega) _).alloc _
    have hbk : BoxN ((((W.alloc (.cells #[.int .i64 k] 3)).drewN nq).setCell ⟨g, k, none⟩ (.int .i64 (aboveOf cl k : Nat))).alloc (.cells #[.int .i64 (aboveOf cl k : Nat)] 3)) W.heap.size 3 #[.int .i64 k] := (((BoxN.new W 3 #[.int .i64 k]).drewN nq).other (a := ⟨g, k, none⟩) (by simp; omega) _).alloc _
    have hbs : BoxN ((((W.alloc (.cells #[.int .i64 k] 3)).drewN nq).setCell ⟨g, k, none⟩ (.int .i64 (aboveOf cl k : Nat))).alloc (.cells #[.int .i64 (aboveOf cl k : Nat)] 3)) (W.heap.size + 1) 3 #[.int .i64 (aboveOf cl k : Nat)] := by
      have := BoxN.new (((W.alloc (.cells #[.int .i64 k] 3)).drewN nq).setCell ⟨g, k, none⟩ (.int .i64 (aboveOf cl k : Nat))) 3 #[.int .i64 (aboveOf cl k : Nat)]
      simpa using this
    have hXc2 := ((hXc.below hX1 hlc).other (a := ⟨g, k, none⟩) (by simp; omega) (.int .i64 (aboveOf cl k : Nat))).alloc (.cells #[.int .i64 (aboveOf cl k : Nat)] 3)
    have hXo2 := ((hXo.below hX1 hlo).other (a := ⟨g, k, none⟩) (by simp; omega) (.int .i64 (aboveOf cl k : Nat))).alloc (.cells #[.int .i64 (aboveOf cl k : Nat)] 3)
    have hblX : Below pc w2 ((((W.alloc (.cells #[.int .i64 k] 3)).drewN nq).setCell ⟨g, k, none⟩ (.int .i64 (aboveOf cl k : Nat))).alloc (.cells #[.int .i64 (aboveOf cl k : Nat)] 3)) :=
      ((hblW.trans (hX1.mono (by omega))).setCell (by simp; omega) _).alloc (by simp; omega) _
    have hMX : MarksAt pc ((((W.alloc (.cells #[.int .i64 k] 3)).drewN nq).setCell ⟨g, k, none⟩ (.int .i64 (aboveOf cl k : Nat))).alloc (.cells #[.int .i64 (aboveOf cl k : Nat)] 3)) Ds := ((hM.below hX1).setCell _ _).below ((Below.refl _ _).alloc (Nat.le_refl _) _)
    have hMlt : ∀ D ∈ Ds, D < W.heap.size := fun D hD => hM.lt hD
    have hXsz : ((((W.alloc (.cells #[.int .i64 k] 3)).drewN nq).setCell ⟨g, k, none⟩ (.int .i64 (aboveOf cl k : Nat))).alloc (.cells #[.int .i64 (aboveOf cl k : Nat)] 3)).heap.size = W.heap.size + 1 + 1 := by simp
    have hTX : Tab ((((W.alloc (.cells #[.int .i64 k] 3)).drewN nq).setCell ⟨g, k, none⟩ (.int .i64 (aboveOf cl k : Nat))).alloc (.cells #[.int .i64 (aboveOf cl k : Nat)] 3)) := (hT.next hbl2).below (B := pc) hblX (by have := hbl2.size; have := Hpcg.out; omega)
    have Hi0 := Lib.hid (Hinv.out.set hkn' hab)
    have Hr0 := Lib.hid (show row (D.set k (aboveOf cl k)) k = redTo cl (aboveOf cl k) [] by rw [row_set _ _ _ _ (by have := Hinv.out.len; omega), if_pos rfl]; rfl)
    have HX := Lib.hid hXsz
    clear hX1 hcc hco hcg hfg hXc hXo hoD hM hTW hXsz hblW hcx Hinv hiW hbits
    generalize ((((W.alloc (.cells #[.int .i64 k] 3)).drewN nq).setCell ⟨g, k, none⟩ (.int .i64 (aboveOf cl k : Nat))).alloc (.cells #[.int .i64 (aboveOf cl k : Nat)] 3)) = X at *
    have hab12 : aboveOf cl k < 2 ^ 12 := Nat.lt_of_lt_of_le hab (Nat.pow_le_pow_right (by decide) hlen)
    refine wp_bits1 (by decide) 10 (B := W.heap.size + 1) (s := aboveOf cl k) rfl (hbs.cell rfl) (by omega) hTX
      (fun pre Y => BoxN Y pc 30 #[.slice (some ⟨b, off, none⟩) n c'] ∧ BoxN Y po 30 #[.slice (some ⟨g, 0, none⟩) n n] ∧ BoxN Y W.heap.size 3 #[.int .i64 k] ∧ Below pc w2 Y ∧ MarksAt pc Y Ds ∧ X.heap.size ≤ Y.heap.size ∧ ∃ E, OwnAt Y g 3 ((castL E).map (Value.int .i64)) ∧ Hid (RdInv cl n k E) ∧ Hid (row E k = redTo cl (aboveOf cl k) pre))
      (fun _ _ _ => False)
      (fun _ Y Y' _ hs hg hr => ⟨hs.1.own hg (fun r e => (hr r e).2), hs.2.1.own hg (fun r e => (hr r e).2), hs.2.2.1.own hg (fun r e => (hr r e).2), hs.2.2.2.1.grown hg (by have := HX.out; have := hs.2.2.2.2.2.1; omega) (fun r e => by have := (hr r e).1; have := HX.out; omega), hs.2.2.2.2.1.own (fun D hD => by have := hMlt D hD; have := HX.out; omega) hg hr, Nat.le_trans hs.2.2.2.2.2.1 hg.size, by
        obtain ⟨E, h1, h2, h3⟩ := hs.2.2.2.2.2.2
        exact ⟨E, h1.own hg (fun r e => (hr r e).2), h2, h3⟩⟩)
      (fun _ _ _ _ _ hs _ _ => hs)
      ⟨hXc2, hXo2, hbk, hblX, hMX, Nat.le_refl _, _, hoX, Hi0, Hr0⟩ ?assign ?body ?done ?stop
    case assign =>
      intro l x Y K hK
      gi_wp2
      exact hK
    case body =>
      clear hbs hbk hblX hMX hoX Hi0 Hr0 hTX hXc2 hXo2
      rintro l pre x Y hx hlen' ⟨hYc, hYo, hYk, hblY, hMY, hszY, E, hoY, Hi, Hr⟩
      have hxn : x < n := bit_below hab hx
      have hEl := Hi.out.len
      have hcc : Y.cell? ⟨pc, 0, none⟩ = some (.slice (some ⟨b, off, none⟩) n c') := hYc.cell rfl
      have hco : Y.cell? ⟨po, 0, none⟩ = some (.slice (some ⟨g, 0, none⟩) n n) := hYo.cell rfl
      have hck : Y.cell? ⟨W.heap.size, 0, none⟩ = some (.int .i64 k) := hYk.cell rfl
      have hcE : Y.cell? ⟨g, k, none⟩ = some (.int .i64 (row E k : Nat)) := hoY.cell (get_cast_val E k (by omega))
      have hfE := hoY.free k
      have hiY : IntsAt Y (some ⟨b, off, none⟩) (castL cl) := hi2.keep (fun q hq => hblY.cell (by have := Hpcg.out; omega))
      obtain ⟨b', off', hA', hcx⟩ := hiY.row (k := x) (by rw [Hu.out]; exact hxn)
      obtain ⟨rfl, rfl⟩ : b = b' ∧ off = off' := by injection hA' with hA'; injection hA' with e1 e2; exact ⟨e1, e2⟩
      have hl1 := hYc.lt
      have hl2 := hYo.lt
      have hl3 := hYk.lt
      have hl4 := hoY.lt
      have hl5 : b < Y.heap.size := block_lt hcx
      have hbg : b < g := by
        obtain ⟨b2, off2, hA2, hc2⟩ := hi2.row (k := x) (by rw [Hu.out]; exact hxn)
        obtain ⟨rfl, rfl⟩ : b = b2 ∧ off = off2 := by injection hA2 with hA2; injection hA2 with e1 e2; exact ⟨e1, e2⟩
        have := block_lt hc2
        have := Hpcg.out
        simp at *; omega
      have hex : row E k < 2 ^ 12 := Nat.lt_of_lt_of_le (Hi.out.bd k) (Nat.pow_le_pow_right (by decide) hlen)
      have hrx : row cl x < 2 ^ 12 := Nat.lt_of_lt_of_le (Hb.out x) (Nat.pow_le_pow_right (by decide) hlen)
      have hp2 : 2 ^ x < 2 ^ 62 := Nat.pow_lt_pow_right (by decide) (by omega)
      have hdm : diff (row cl x) (2 ^ x) < 2 ^ 12 := diff_lt hrx
      have hb1 : bits .andNot .i64 ((row cl x : Nat) : Int) (IntKind.i64.wrap (2 ^ x)) = ((diff (row cl x) (2 ^ x) : Nat) : Int) := by
        rw [wrap_pow x (by omega)]; exact bits_andNot_nat _ _ (by omega) hp2
      have hb2 : bits .andNot .i64 ((row E k : Nat) : Int) ((diff (row cl x) (2 ^ x) : Nat) : Int) = ((diff (row E k) (diff (row cl x) (2 ^ x)) : Nat) : Int) := bits_andNot_nat _ _ (by omega) (by omega)
      have hv2 : diff (row E k) (diff (row cl x) (2 ^ x)) < 2 ^ n := diff_lt (Hi.out.bd k)
      have Hset := Lib.hid (Hi.out.set hkn' hv2)
      have Hrn := Lib.hid (show row (E.set k (diff (row E k) (diff (row cl x) (2 ^ x)))) k = redTo cl (aboveOf cl k) (pre ++ [x]) by
        rw [row_set _ _ _ _ (by omega), if_pos rfl, redTo_snoc, Hr.out])
      obtain ⟨v, hv⟩ : ∃ v, diff (row E k) (diff (row cl x) (2 ^ x)) = v := ⟨_, rfl⟩
      rw [hv] at hb2 Hset Hrn
      generalize diff (row cl x) (2 ^ x) = m at *
      have hmix : Tryd.prog.follows .mixedOrders = true := by kernel_rfl
      clear hx Hi hv hp2 hv2 Hr hA' hiY
      generalize row E k = y at *
      generalize row cl x = z at *
      have hb1w := hb1
      simp only [List.setIfInBounds_toArray, List.set_cons_succ, List.set_cons_zero]
      gi_wp2_with fail
      refine wpIn_round_still_tail 13 (by kernel_rfl) (by kernel_rfl) (by kernel_rfl) ?_
      simp only [List.take_succ_cons, List.take_zero, List.drop_succ_cons, List.drop_zero]
      repeat still_step
      refine wpStill_nil ?_
      go_wp2_with fail
      all_goals
        simp only [OnlyNormal]
        gi_wp2_with fail
        exact ⟨((KeepsOthers.drew _).trans (KeepsOthers.setCell _ _ _)).from _, ((Below.refl _ _).drew).setCell (by simp; omega) _, hYc.drew.other (by simp; omega) _, hYo.drew.other (by simp; omega) _, hYk.drew.other (by simp; omega) _, (hblY.drew).setCell (by simp; omega) _, (hMY.keep (KeepsOthers.drew _)).setCell _ _, by simpa using hszY, E.set k v, by rw [map_set_cast]; exact (hoY.drew).set (by simp [castL]; omega) _, Hset, Hrn⟩
    case done =>
      rintro D' Z hD ⟨hZc, hZo, hZk, hblZ, hMZ, hszZ, E, hoZ, Hi, Hr⟩ hK
      have hq1 : pc ≤ D' := by have := HX.out; omega
      have hq2 : D' ∉ Ds := fun h => by have := hMlt D' h; have := HX.out; omega
      have hq3 : k + 1 ≤ n := by omega
      gi_wp2_with fail
      refine ⟨_, D' :: Ds, rfl, ?pt, ⟨k + 1, by simp [valL], hq3, hZc, hZo, hblZ, hMZ.cons hq1 hq2 hK, E, hoZ, Hi.out.next Hr.out⟩, by simp [valL, intOf]; omega⟩
      case pt => simp only [patchL, valL, List.map_cons, List.map_nil, List.set_cons_succ, List.set_cons_zero, List.getD_cons_succ, List.getD_cons_zero]
    case stop =>
      intros
      rename_i h _
      exact h.elim
  · obtain rfl : k = n := by omega
    have hco : W.cell? ⟨po, 0, none⟩ = some (.slice (some ⟨g, 0, none⟩) k k) := hXo.cell rfl
    have hwl := hbl2.size
    have Hpcg := Lib.hid hpcg
    clear hpcg
    gi_wp2_with fail
    refine leaves_marks (B := pc) Ds _ hM fun w' hsc hb' _ => ?_
    refine ⟨_, results_tmp2 rfl _ _ _, some ⟨g, 0, none⟩, k, rfl, ?_, ?_⟩
    · rw [← Hinv.out.fin Hu.out]; exact hoD.ints.keep (fun a _ => hsc.cell a)
    · exact hbl2.trans ((hblW.trans hb').mono (by have := Hpcg.out; omega))
end Go.Proofs.YtbdochaahbpabaaDoor
