/-
  Contracts: flow.levels, flow.highest.
-/
import Derived.Test.YthaaekpnemhjoaaDoorCast
import Derived.Test.YthaaekpnemhjoaaDoorErr
import Derived.Test.YthaaekpnemhjoaaDoorWithin
import Derived.Test.YthaaekpnemhjoaaDoorBibaLaw
import Derived.Test.YthaaekpnemhjoaaDoorBits
import Derived.Test.YthaaekpnemhjoaaDoorMarks
import Derived.Test.YthaaekpnemhjoaaDoorLoopMarks
import Derived.Test.YthaaekpnemhjoaaDoorTail
import Derived.Test.YthaaekpnemhjoaaDoorOver
namespace Go.Proofs.YthaaekpnemhjoaaDoor
open Go.RowKit
attribute [local go_sem] Oper.semAt_some
attribute [local simp, local go_sem] wide_fn
set_option maxRecDepth 100000
set_option linter.unusedVariables false

/-- What is wrong with some levels. -/
def levCode (l : List Int) (lo : Int) : Nat := if l.length = 6 then if l.all (fun x => decide (lo ≤ x ∧ x ≤ 7)) then 0 else 1 else 3
/-- The highest of some, 0 at least. -/
def hiI (l : List Int) (p : List Nat) : Int := p.foldl (fun a i => max a (gI l i)) 0
theorem hiI_snoc (l : List Int) (p : List Nat) (x : Nat) : hiI l (p ++ [x]) = max (hiI l p) (gI l x) := by unfold hiI; rw [List.foldl_append]; rfl
theorem hiI_le {l : List Int} {p : List Nat} {m : Int} : hiI l p ≤ m ↔ 0 ≤ m ∧ ∀ i ∈ p, gI l i ≤ m := by
  unfold hiI
  have : ∀ (p : List Nat) (a : Int), p.foldl (fun a i => max a (gI l i)) a ≤ m ↔ a ≤ m ∧ ∀ i ∈ p, gI l i ≤ m := fun p => by
    induction p with
    | nil => intro a; simp
    | cons x p ih => intro a; simp only [List.foldl_cons, ih, List.mem_cons, forall_eq_or_imp]; constructor <;> intro h <;> refine ⟨by have := h.1; omega, ?_⟩
                     · exact ⟨by have := h.1; omega, h.2⟩
                     · exact h.2.2
  exact this p 0

theorem levels_any (l : List Int) (lo : Int) (A : Option Addr) (c : Nat) (w : World) (h : IntsAt w A l) :
    Calls Tryd.prog 28 #[.slice A l.length c, .int .i64 lo] w fun e w' => e = .returned (errVal (levCode l lo)) ∧ w = w' := by
  by_cases h6 : l.length = 6
  · have Hc := Lib.hid (show levCode l lo = if l.all (fun x => decide (lo ≤ x ∧ x ≤ 7)) then 0 else 1 by unfold levCode; rw [if_pos h6])
    have H6 := Lib.hid h6
    rw [h6]
    clear h6
    go_enter Tryd.func28, Tryd.ntmps28
    go_wp2_with fail
    go_loopw [13] (fun i wr => ∃ k : Nat, k ≤ 6 ∧ i = .int .i64 k ∧ Hid (∀ j x, j < k → l[j]? = some x → lo ≤ x ∧ x ≤ 7) ∧ wr = w) (fun i _ => 6 - (intOf i).toNat)
    case atStart => exact ⟨0, Nat.zero_le _, rfl, Lib.hid (fun j x hj => by omega), rfl⟩
    case round =>
      obtain ⟨k, hk, rfl, hall, rfl⟩ := hrel
      by_cases hlt : k < 6
      · obtain ⟨b, off, x, rfl, hx, hc⟩ := h.at_ (k := k) (by have := H6.out; omega)
        clear h
        by_cases hok : lo ≤ x ∧ x ≤ 7
        · have W1 := Lib.hid (fun V => Within3_is x lo 7 true V (decide_eq_true hok))
          have Hn := Lib.hid (show ∀ j y, j < k + 1 → l[j]? = some y → lo ≤ y ∧ y ≤ 7 from fun j y hj hy => by
            rcases Nat.lt_or_ge j k with h1 | h1
            · exact hall.out j y h1 hy
            · obtain rfl : j = k := by omega
              rw [hx.out] at hy
              injection hy with hy
              subst hy
              exact hok)
          clear hall hx hok
          go_wp2_with (go_at_call 39; with_reducible refine (W1.out _).mono ?_; rintro e w' ⟨rfl, rfl⟩)
          refine ⟨⟨k + 1, ?qa, ?qb, Hn, trivial⟩, ?qd⟩
          case qa => omega
          case qb => go_num
          case qd => simp [intOf]; omega
        · have W1 := Lib.hid (fun V => Within3_is x lo 7 false V (decide_eq_false hok))
          have Hr := Lib.hid (show levCode l lo = 1 by
            rw [Hc.out, if_neg]
            rw [List.all_eq_true]
            intro ha
            have := ha x (List.mem_of_getElem? hx.out)
            exact hok (of_decide_eq_true this))
          clear hall hx hok Hc
          go_wp2_with (go_at_call 39; with_reducible refine (W1.out _).mono ?_; rintro e w' ⟨rfl, rfl⟩)
          go_ret
          exact ⟨by rw [Hr.out]; rfl, rfl⟩
      · obtain rfl : k = 6 := by omega
        have Hr := Lib.hid (show levCode l lo = 0 by
          rw [Hc.out, if_pos]
          rw [List.all_eq_true]
          intro x hx
          obtain ⟨j, hj, rfl⟩ := List.getElem_of_mem hx
          exact decide_eq_true (hall.out j _ (by have := H6.out; omega) (List.getElem?_eq_getElem hj)))
        clear hall Hc h
        go_wp2_with fail
        go_ret
        exact ⟨by rw [Hr.out]; rfl, rfl⟩
  · have hb : ((l.length : Int) != 6) = true := by rw [bne_iff_ne]; omega
    have Hr := Lib.hid (show levCode l lo = 3 by unfold levCode; rw [if_neg h6])
    clear h6 h
    generalize l.length = n at *
    go_enter Tryd.func28, Tryd.ntmps28
    go_wp2_with fail
    go_ret
    exact ⟨by rw [Hr.out]; rfl, rfl⟩

section
variable {w : World} {A : Option Addr} {c : Nat} {l : List Int}
set_option maxHeartbeats 4000000 in
theorem highest_any (h6 : l.length = 6) (hA : IntsAt w A l) (hT : Tab w) {s : Nat} (hs : s < 64) :
    Calls Tryd.prog 31 #[.slice A 6 c, .int .i64 s] w fun e w' => e = .returned (.int .i64 (hiI l (bitsOf s))) ∧ Below w.heap.size w w' := by
  refine (callsIn_wide (n := 8)).1 ?_
  have hg := hT.lt
  have Hbit := Lib.hid (fun x (hx : s.testBit x = true) => bit_below (n := 6) hs hx)
  have Hres := Lib.hid (show hiI l (bitsOf s) = hiI l (bitsOf s) from rfl)
  obtain ⟨b, off, rfl, hcl⟩ := hA (by intro e; rw [e] at h6; cases h6)
  have Hcl := Lib.hid (show ∀ x, x < 6 → w.cell? ⟨b, off + x, none⟩ = some (.int .i64 (gI l x)) from fun x hx => hcl x _ (get_gI (by omega)))
  have hbw : b < w.heap.size := block_lt (Hcl.out 0 (by decide))
  clear hA hcl h6
  refine callsIn_of_wp_marks Tryd.func31 rfl trivial ?_ rfl
  simp only [Tryd.ntmps31, List.size_toArray, List.length_cons, List.length_nil, Nat.reduceAdd, Nat.reduceSub, Array.replicate_succ, Array.replicate_zero, List.push_toArray, List.append_toArray, List.nil_append, List.cons_append]
  gi_wp2_with fail
  have hbl : Below w.heap.size w ((w.alloc (.cells #[.slice (some ⟨b, off, none⟩) 6 c] 23)).alloc (.cells #[.int .i64 0] 3)) := ((Below.refl _ _).alloc (Nat.le_refl _) _).alloc (by simp) _
  have hx1 := (BoxN.new w 23 #[.slice (some ⟨b, off, none⟩) 6 c]).alloc (.cells #[.int .i64 0] 3)
  have hx2 := BoxN.new (w.alloc (.cells #[.slice (some ⟨b, off, none⟩) 6 c] 23)) 3 #[.int .i64 0]
  have hsz : ((w.alloc (.cells #[.slice (some ⟨b, off, none⟩) 6 c] 23)).alloc (.cells #[.int .i64 0] 3)).heap.size = w.heap.size + 1 + 1 := by simp
  simp only [World.size_alloc] at hx2
  generalize (w.alloc (.cells #[.slice (some ⟨b, off, none⟩) 6 c] 23)).alloc (.cells #[.int .i64 0] 3) = W at *
  have Hsz := Lib.hid hsz
  clear hsz
  refine (callsIn_wide.2 (Bits_any (s : Nat) _)).mono ?_
  rintro e w4 ⟨rfl, rfl⟩
  have hbX : Below W.heap.size W (W.alloc (.cells #[.int .i64 (s : Nat)] 3)) := (Below.refl _ _).alloc (Nat.le_refl _) _
  have hxd : BoxN (W.alloc (.cells #[.int .i64 (s : Nat)] 3)) W.heap.size 3 #[.int .i64 (s : Nat)] := BoxN.new W _ _
  have hsX : (W.alloc (.cells #[.int .i64 (s : Nat)] 3)).heap.size = W.heap.size + 1 := by simp
  gi_wp2_with fail
  generalize W.alloc (.cells #[.int .i64 (s : Nat)] 3) = X at *
  have hy1 := hx1.all hbX
  have hy2 := hx2.all hbX
  have hblX := hbl.trans (hbX.mono hbl.size)
  have hTX : Tab X := hT.next hblX
  have hszW := Hsz.out
  have hpX : w.heap.size + 1 + 1 < X.heap.size := by omega
  have hpW : w.heap.size + 1 < W.heap.size := by omega
  clear hszW hx1 hx2 hbX hbl hT hsX
  refine wp_bits1 (by decide) 6 (B := W.heap.size) (s := s) rfl (hxd.cell rfl) (by omega) hTX
    (fun pre Y => BoxN Y (w.heap.size + 1) 3 #[.int .i64 (hiI l pre)] ∧ Below (w.heap.size + 1) X Y)
    (fun _ _ _ => False)
    (fun _ Y Y' _ hs hg hr => ⟨hs.1.own hg (fun r e => (hr r e).2), below_own hs.2 (by omega) (by omega) hg hr⟩)
    (fun _ _ _ _ _ hs _ _ => hs)
    ⟨hy2, Below.refl _ _⟩ ?assign ?body ?done ?stop
  case assign =>
    intro l x Y K hK
    gi_wp2
    exact hK
  case body =>
    rintro ll pre x Y hx hlen' ⟨hYo, hY⟩
    have hxn : x < 6 := Hbit.out x hx
    have hY1 := hy1.below hY (by omega)
    have a1 : Y.cell? ⟨w.heap.size, 0, none⟩ = some (.slice (some ⟨b, off, none⟩) 6 c) := hY1.cell rfl
    have a2 : Y.cell? ⟨w.heap.size + 1, 0, none⟩ = some (.int .i64 (hiI l pre)) := hYo.cell rfl
    have f2 := hYo.free 0
    have hcX := (hblX.cell (p := ⟨b, off + x, none⟩) hbw).trans (Hcl.out x hxn)
    have hcY := (hY.cell (p := ⟨b, off + x, none⟩) (show b < w.heap.size + 1 by omega)).trans hcX
    have hlY := hYo.lt
    have Hsn := Lib.hid (hiI_snoc l pre x)
    have Hset := Lib.hid (fun (o : Int) (ho : o = hiI l (pre ++ [x])) => show BoxN (Y.setCell ⟨w.heap.size + 1, 0, none⟩ (.int .i64 o)).drew (w.heap.size + 1) 3 #[.int .i64 (hiI l (pre ++ [x]))] from by
      subst ho; exact (hYo.set 0 (.int .i64 (hiI l (pre ++ [x])))).drew)
    have hszY := hY.size
    have hxi : (x : Int) < 6 := by omega
    simp only [List.setIfInBounds_toArray, List.set_cons_succ, List.set_cons_zero]
    clear hcX hY1 hy1 hy2
    generalize hiI l pre = o1 at *
    generalize gI l x = rx at *
    rcases Int.lt_or_le o1 rx with hm | hm
    · have Ho2 := Lib.hid (show rx = hiI l (pre ++ [x]) by rw [Hsn.out]; omega)
      gi_wp2_with fail
      refine wpIn_round_still_tail 5 (by kernel_rfl) (by kernel_rfl) (by kernel_rfl) ?_
      simp only [List.take_succ_cons, List.take_zero, List.drop_succ_cons, List.drop_zero]
      repeat still_step
      refine wpStill_nil ?_
      go_wp2_with fail
      simp only [OnlyNormal]
      gi_wp2_with fail
      exact ⟨((KeepsOthers.setCell _ _ _).trans (keepsOthers_below ((Below.refl _ _).drew))).from _, ((Below.refl _ Y).setCell (p := ⟨w.heap.size + 1, 0, none⟩) (by show _ ≤ w.heap.size + 1; omega) _).drew, Hset.out _ Ho2.out, (hY.setCell (p := ⟨w.heap.size + 1, 0, none⟩) (Nat.le_refl _) _).drew⟩
    · have Ho2 := Lib.hid (show o1 = hiI l (pre ++ [x]) by rw [Hsn.out]; omega)
      gi_wp2_with fail
      refine wpIn_round_still_tail 5 (by kernel_rfl) (by kernel_rfl) (by kernel_rfl) ?_
      simp only [List.take_succ_cons, List.take_zero, List.drop_succ_cons, List.drop_zero]
      repeat still_step
      refine wpStill_nil ?_
      go_wp2_with fail
      simp only [OnlyNormal]
      gi_wp2_with fail
      exact ⟨((KeepsOthers.setCell _ _ _).trans (keepsOthers_below ((Below.refl _ _).drew))).from _, ((Below.refl _ Y).setCell (p := ⟨w.heap.size + 1, 0, none⟩) (by show _ ≤ w.heap.size + 1; omega) _).drew, Hset.out _ Ho2.out, (hY.setCell (p := ⟨w.heap.size + 1, 0, none⟩) (Nat.le_refl _) _).drew⟩
  case done =>
    rintro D Z hD ⟨hZo, hZ⟩ hK
    have a2 : Z.cell? ⟨w.heap.size + 1, 0, none⟩ = some (.int .i64 (hiI l (bitsOf s))) := hZo.cell rfl
    gi_wp2_with fail
    refine leaves_marks (B := w.heap.size) [D] Z (MarksAt.nil.cons (by have := hblX.size; omega) (by simp) hK) fun w' hsc hb' _ => ?_
    refine ⟨.int .i64 (hiI l (bitsOf s)), by simp [results, Tryd.f31, go_sem], rfl, (hblX.trans (hZ.mono (by omega))).trans hb'⟩
  case stop =>
    rintro D cd pre Z hD _ h hK
    exact h.elim
end
end Go.Proofs.YthaaekpnemhjoaaDoor
