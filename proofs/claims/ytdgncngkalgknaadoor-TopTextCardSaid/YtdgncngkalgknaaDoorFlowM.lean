/-
  Contracts: flow.levels, flow.highest.
  Contract: flow.each, for any closure that is told each setting.
  Contracts: flow.From, flow.Fits, with their closures.
  Contract: flow.Fits.
  Plain laws: what flows where, and which levels fit.
  Contract: flow.Least, with its closure.
  Plain laws: the passes of Least.
  Contract: flow.Least.
-/
import Derived.Test.YtdgncngkalgknaaDoorCast
import Derived.Test.YtdgncngkalgknaaDoorErr
import Derived.Test.YtdgncngkalgknaaDoorWithin
import Derived.Test.YtdgncngkalgknaaDoorBibaLaw
import Derived.Test.YtdgncngkalgknaaDoorBitsM
import Derived.Test.YtdgncngkalgknaaDoorMarks
import Derived.Test.YtdgncngkalgknaaDoorLoopMarks
import Derived.Test.YtdgncngkalgknaaDoorTail
import Derived.Test.YtdgncngkalgknaaDoorOver
import Derived.Test.YtdgncngkalgknaaDoorPgB
import Derived.Test.YtdgncngkalgknaaDoorStillD
import Derived.Deep.RegionHeld3
import Derived.Deep.CutRange
import Derived.RangeFuncOwn
import Derived.Shelf.Abstract
import Derived.Test.YtdgncngkalgknaaDoorPgC
import Derived.Test.YtdgncngkalgknaaDoorRelB
import Derived.Test.YtdgncngkalgknaaDoorBut
import Derived.Test.YtdgncngkalgknaaDoorOrderLaw
import Derived.Test.YtdgncngkalgknaaDoorClone
import Derived.Deep.LoopGhost
namespace Go.Proofs.YtdgncngkalgknaaDoor
open Go.RowKit
attribute [local go_sem] Oper.semAt_some
attribute [local simp, local go_sem] wide_fn
set_option maxRecDepth 100000
set_option linter.unusedVariables false

/-- What is wrong with some levels. -/
def levCode (l : List Int) (lo : Int) : Nat := if l.length = 6 then if l.all (fun x => decide (lo ≤ x ∧ x ≤ 7)) then 0 else 1 else 3
/-- The highest of some, 0 at least. -/
def hiI (l : List Int) (p : List Nat) : Int := p.foldl (fun a i => max a (gI l i)) 0
theorem hiI_snoc (l : List Int) (p : List Nat) (x : Nat) : hiI l (p ++ [x]) = max (hiI l p) (gI l x) := by unfold hiI; rw [List.foldl_append]; rfl
theorem hiI_le {l : List Int} {p : List Nat} {m : Int} : hiI l p ≤ m ↔ 0 ≤ m ∧ ∀ i ∈ p, gI l i ≤ m := by
  unfold hiI
  have : ∀ (p : List Nat) (a : Int), p.foldl (fun a i => max a (gI l i)) a ≤ m ↔ a ≤ m ∧ ∀ i ∈ p, gI l i ≤ m := fun p => by
    induction p with
    | nil => intro a; simp
    | cons x p ih => intro a; simp only [List.foldl_cons, ih, List.mem_cons, forall_eq_or_imp]; constructor <;> intro h <;> refine ⟨by have := h.1; omega, ?_⟩
                     · exact ⟨by have := h.1; omega, h.2⟩
                     · exact h.2.2
  exact this p 0

theorem levels_any (l : List Int) (lo : Int) (A : Option Addr) (c : Nat) (w : World) (h : IntsAt w A l) :
    Calls Tryd.prog 40 #[.slice A l.length c, .int .i64 lo] w fun e w' => e = .returned (errVal (levCode l lo)) ∧ w = w' := by
  by_cases h6 : l.length = 6
  · have Hc := Lib.hid (show levCode l lo = if l.all (fun x => decide (lo ≤ x ∧ x ≤ 7)) then 0 else 1 by unfold levCode; rw [if_pos h6])
    have H6 := Lib.hid h6
    rw [h6]
    clear h6
    go_enter Tryd.func40, Tryd.ntmps40
    go_wp2_with fail
    go_loopw [13] (fun i wr => ∃ k : Nat, k ≤ 6 ∧ i = .int .i64 k ∧ Hid (∀ j x, j < k → l[j]? = some x → lo ≤ x ∧ x ≤ 7) ∧ wr = w) (fun i _ => 6 - (intOf i).toNat)
    case atStart => exact ⟨0, Nat.zero_le _, rfl, Lib.hid (fun j x hj => by omega), rfl⟩
    case round =>
      obtain ⟨k, hk, rfl, hall, rfl⟩ := hrel
      by_cases hlt : k < 6
      · obtain ⟨b, off, x, rfl, hx, hc⟩ := h.at_ (k := k) (by have := H6.out; omega)
        clear h
        by_cases hok : lo ≤ x ∧ x ≤ 7
        · have W1 := Lib.hid (fun V => Within3_is x lo 7 true V (decide_eq_true hok))
          have Hn := Lib.hid (show ∀ j y, j < k + 1 → l[j]? = some y → lo ≤ y ∧ y ≤ 7 from fun j y hj hy => by
            rcases Nat.lt_or_ge j k with h1 | h1
            · exact hall.out j y h1 hy
            · obtain rfl : j = k := by omega
              rw [hx.out] at hy
              injection hy with hy
              subst hy
              exact hok)
          clear hall hx hok
          go_wp2_with (go_at_call 57; with_reducible refine (W1.out _).mono ?_; rintro e w' ⟨rfl, rfl⟩)
          refine ⟨⟨k + 1, ?qa, ?qb, Hn, trivial⟩, ?qd⟩
          case qa => omega
          case qb => go_num
          case qd => simp [intOf]; omega
        · have W1 := Lib.hid (fun V => Within3_is x lo 7 false V (decide_eq_false hok))
          have Hr := Lib.hid (show levCode l lo = 1 by
            rw [Hc.out, if_neg]
            rw [List.all_eq_true]
            intro ha
            have := ha x (List.mem_of_getElem? hx.out)
            exact hok (of_decide_eq_true this))
          clear hall hx hok Hc
          go_wp2_with (go_at_call 57; with_reducible refine (W1.out _).mono ?_; rintro e w' ⟨rfl, rfl⟩)
          go_ret
          exact ⟨by rw [Hr.out]; rfl, rfl⟩
      · obtain rfl : k = 6 := by omega
        have Hr := Lib.hid (show levCode l lo = 0 by
          rw [Hc.out, if_pos]
          rw [List.all_eq_true]
          intro x hx
          obtain ⟨j, hj, rfl⟩ := List.getElem_of_mem hx
          exact decide_eq_true (hall.out j _ (by have := H6.out; omega) (List.getElem?_eq_getElem hj)))
        clear hall Hc h
        go_wp2_with fail
        go_ret
        exact ⟨by rw [Hr.out]; rfl, rfl⟩
  · have hb : ((l.length : Int) != 6) = true := by rw [bne_iff_ne]; omega
    have Hr := Lib.hid (show levCode l lo = 3 by unfold levCode; rw [if_neg h6])
    clear h6 h
    generalize l.length = n at *
    go_enter Tryd.func40, Tryd.ntmps40
    go_wp2_with fail
    go_ret
    exact ⟨by rw [Hr.out]; rfl, rfl⟩

section
variable {w : World} {A : Option Addr} {c : Nat} {l : List Int}
set_option maxHeartbeats 4000000 in
theorem highest_any (h6 : l.length = 6) (hA : IntsAt w A l) (hT : Tab w) {s : Nat} (hs : s < 64) :
    Calls Tryd.prog 43 #[.slice A 6 c, .int .i64 s] w fun e w' => e = .returned (.int .i64 (hiI l (bitsOf s))) ∧ Below w.heap.size w w' := by
  refine (callsIn_wide (n := 8)).1 ?_
  have hg := hT.lt
  have Hbit := Lib.hid (fun x (hx : s.testBit x = true) => bit_below (n := 6) hs hx)
  have Hres := Lib.hid (show hiI l (bitsOf s) = hiI l (bitsOf s) from rfl)
  obtain ⟨b, off, rfl, hcl⟩ := hA (by intro e; rw [e] at h6; cases h6)
  have Hcl := Lib.hid (show ∀ x, x < 6 → w.cell? ⟨b, off + x, none⟩ = some (.int .i64 (gI l x)) from fun x hx => hcl x _ (get_gI (by omega)))
  have hbw : b < w.heap.size := block_lt (Hcl.out 0 (by decide))
  clear hA hcl h6
  refine callsIn_of_wp_marks Tryd.func43 rfl trivial ?_ rfl
  simp only [Tryd.ntmps43, List.size_toArray, List.length_cons, List.length_nil, Nat.reduceAdd, Nat.reduceSub, Array.replicate_succ, Array.replicate_zero, List.push_toArray, List.append_toArray, List.nil_append, List.cons_append]
  gi_wp2_with fail
  have hbl : Below w.heap.size w ((w.alloc (.cells #[.slice (some ⟨b, off, none⟩) 6 c] 22)).alloc (.cells #[.int .i64 0] 3)) := ((Below.refl _ _).alloc (Nat.le_refl _) _).alloc (by simp) _
  have hx1 := (BoxN.new w 22 #[.slice (some ⟨b, off, none⟩) 6 c]).alloc (.cells #[.int .i64 0] 3)
  have hx2 := BoxN.new (w.alloc (.cells #[.slice (some ⟨b, off, none⟩) 6 c] 22)) 3 #[.int .i64 0]
  have hsz : ((w.alloc (.cells #[.slice (some ⟨b, off, none⟩) 6 c] 22)).alloc (.cells #[.int .i64 0] 3)).heap.size = w.heap.size + 1 + 1 := by simp
  simp only [World.size_alloc] at hx2
  generalize (w.alloc (.cells #[.slice (some ⟨b, off, none⟩) 6 c] 22)).alloc (.cells #[.int .i64 0] 3) = W at *
  have Hsz := Lib.hid hsz
  clear hsz
  refine (callsIn_wide.2 (Bits_any (s : Nat) _)).mono ?_
  rintro e w4 ⟨rfl, rfl⟩
  have hbX : Below W.heap.size W (W.alloc (.cells #[.int .i64 (s : Nat)] 3)) := (Below.refl _ _).alloc (Nat.le_refl _) _
  have hxd : BoxN (W.alloc (.cells #[.int .i64 (s : Nat)] 3)) W.heap.size 3 #[.int .i64 (s : Nat)] := BoxN.new W _ _
  have hsX : (W.alloc (.cells #[.int .i64 (s : Nat)] 3)).heap.size = W.heap.size + 1 := by simp
  gi_wp2_with fail
  generalize W.alloc (.cells #[.int .i64 (s : Nat)] 3) = X at *
  have hy1 := hx1.all hbX
  have hy2 := hx2.all hbX
  have hblX := hbl.trans (hbX.mono hbl.size)
  have hTX : Tab X := hT.next hblX
  have hszW := Hsz.out
  have hpX : w.heap.size + 1 + 1 < X.heap.size := by omega
  have hpW : w.heap.size + 1 < W.heap.size := by omega
  clear hszW hx1 hx2 hbX hbl hT hsX
  refine wp_bits1 (by decide) 6 (B := W.heap.size) (s := s) rfl (hxd.cell rfl) (by omega) hTX
    (fun pre Y => BoxN Y (w.heap.size + 1) 3 #[.int .i64 (hiI l pre)] ∧ Below (w.heap.size + 1) X Y)
    (fun _ _ _ => False)
    (fun _ Y Y' _ hs hg hr => ⟨hs.1.own hg (fun r e => (hr r e).2), below_own hs.2 (by omega) (by omega) hg hr⟩)
    (fun _ _ _ _ _ hs _ _ => hs)
    ⟨hy2, Below.refl _ _⟩ ?assign ?body ?done ?stop
  case assign =>
    intro l x Y K hK
    gi_wp2
    exact hK
  case body =>
    rintro ll pre x Y hx hlen' ⟨hYo, hY⟩
    have hxn : x < 6 := Hbit.out x hx
    have hY1 := hy1.below hY (by omega)
    have a1 : Y.cell? ⟨w.heap.size, 0, none⟩ = some (.slice (some ⟨b, off, none⟩) 6 c) := hY1.cell rfl
    have a2 : Y.cell? ⟨w.heap.size + 1, 0, none⟩ = some (.int .i64 (hiI l pre)) := hYo.cell rfl
    have f2 := hYo.free 0
    have hcX := (hblX.cell (p := ⟨b, off + x, none⟩) hbw).trans (Hcl.out x hxn)
    have hcY := (hY.cell (p := ⟨b, off + x, none⟩) (show b < w.heap.size + 1 by omega)).trans hcX
    have hlY := hYo.lt
    have Hsn := Lib.hid (hiI_snoc l pre x)
    have Hset := Lib.hid (fun (o : Int) (ho : o = hiI l (pre ++ [x])) => show BoxN (Y.setCell ⟨w.heap.size + 1, 0, none⟩ (.int .i64 o)).drew (w.heap.size + 1) 3 #[.int .i64 (hiI l (pre ++ [x]))] from by
      subst ho; exact (hYo.set 0 (.int .i64 (hiI l (pre ++ [x])))).drew)
    have hszY := hY.size
    have hxi : (x : Int) < 6 := by omega
    simp only [List.setIfInBounds_toArray, List.set_cons_succ, List.set_cons_zero]
    clear hcX hY1 hy1 hy2
    generalize hiI l pre = o1 at *
    generalize gI l x = rx at *
    rcases Int.lt_or_le o1 rx with hm | hm
    · have Ho2 := Lib.hid (show rx = hiI l (pre ++ [x]) by rw [Hsn.out]; omega)
      gi_wp2_with fail
      refine wpIn_round_still_tail 5 (by kernel_rfl) (by kernel_rfl) (by kernel_rfl) ?_
      simp only [List.take_succ_cons, List.take_zero, List.drop_succ_cons, List.drop_zero]
      repeat still_step
      refine wpStill_nil ?_
      go_wp2_with fail
      simp only [OnlyNormal]
      gi_wp2_with fail
      exact ⟨((KeepsOthers.setCell _ _ _).trans (keepsOthers_below ((Below.refl _ _).drew))).from _, ((Below.refl _ Y).setCell (p := ⟨w.heap.size + 1, 0, none⟩) (by show _ ≤ w.heap.size + 1; omega) _).drew, Hset.out _ Ho2.out, (hY.setCell (p := ⟨w.heap.size + 1, 0, none⟩) (Nat.le_refl _) _).drew⟩
    · have Ho2 := Lib.hid (show o1 = hiI l (pre ++ [x]) by rw [Hsn.out]; omega)
      gi_wp2_with fail
      refine wpIn_round_still_tail 5 (by kernel_rfl) (by kernel_rfl) (by kernel_rfl) ?_
      simp only [List.take_succ_cons, List.take_zero, List.drop_succ_cons, List.drop_zero]
      repeat still_step
      refine wpStill_nil ?_
      go_wp2_with fail
      simp only [OnlyNormal]
      gi_wp2_with fail
      exact ⟨((KeepsOthers.setCell _ _ _).trans (keepsOthers_below ((Below.refl _ _).drew))).from _, ((Below.refl _ Y).setCell (p := ⟨w.heap.size + 1, 0, none⟩) (by show _ ≤ w.heap.size + 1; omega) _).drew, Hset.out _ Ho2.out, (hY.setCell (p := ⟨w.heap.size + 1, 0, none⟩) (Nat.le_refl _) _).drew⟩
  case done =>
    rintro D Z hD ⟨hZo, hZ⟩ hK
    have a2 : Z.cell? ⟨w.heap.size + 1, 0, none⟩ = some (.int .i64 (hiI l (bitsOf s))) := hZo.cell rfl
    gi_wp2_with fail
    refine leaves_marks (B := w.heap.size) [D] Z (MarksAt.nil.cons (by have := hblX.size; omega) (by simp) hK) fun w' hsc hb' _ => ?_
    refine ⟨.int .i64 (hiI l (bitsOf s)), by simp [results, Tryd.f43, go_sem], rfl, (hblX.trans (hZ.mono (by omega))).trans hb'⟩
  case stop =>
    rintro D cd pre Z hD _ h hK
    exact h.elim
end
end Go.Proofs.YtdgncngkalgknaaDoor

namespace Go.Proofs.YtdgncngkalgknaaDoor
open Go.RowKit Go.Shelf
set_option maxRecDepth 100000
set_option linter.unusedVariables false

/-- What is laid from E on stays as it is. -/
structure KeepsUp (E : Nat) (w w' : World) : Prop where
  size : w.heap.size ≤ w'.heap.size
  block : ∀ b, E ≤ b → b < w.heap.size → w'.heap[b]? = w.heap[b]?
section
variable {E : Nat} {w w' w'' : World}
theorem KeepsUp.refl (E : Nat) (w : World) : KeepsUp E w w := ⟨Nat.le_refl _, fun _ _ _ => rfl⟩
theorem KeepsUp.trans (h : KeepsUp E w w') (k : KeepsUp E w' w'') : KeepsUp E w w'' := ⟨Nat.le_trans h.size k.size, fun b hb hl => (k.block b hb (Nat.lt_of_lt_of_le hl h.size)).trans (h.block b hb hl)⟩
theorem KeepsUp.below (h : Below w.heap.size w w') : KeepsUp E w w' := ⟨h.size, fun b _ hl => h.block b hl⟩
theorem KeepsUp.box (h : KeepsUp E w w') {b : Nat} {t : TypeId} {vs : Array Value} (hb : BoxN w b t vs) (hE : E ≤ b) : BoxN w' b t vs := (h.block b hE hb.lt).trans hb
theorem KeepsUp.mono (h : KeepsUp E w w') {D : Nat} (hD : E ≤ D) : KeepsUp D w w' := ⟨h.size, fun b hb hl => h.block b (Nat.le_trans hD hb) hl⟩
end

/-- A closure that is told settings: what it makes of them is said of the world behind it. -/
structure Sees (w0 : World) (E : Nat) (fn : FuncId) (caps : Array Value) (Inv : List (Nat × Nat) → World → Prop) : Prop where
  enters : Enters Tryd.prog fn
  low : ∀ l V, Inv l V → Below w0.heap.size w0 V
  up : ∀ l V, Inv l V → E ≤ V.heap.size
  keep : ∀ l V V', Inv l V → Below V.heap.size V V' → Inv l V'
  call : ∀ l x f V, Inv l V → x < 6 → f < 64 → Calls Tryd.prog fn (#[.int .i64 (x : Nat), .int .i64 (f : Nat)] ++ caps) V fun e w' => e = .returned (.tuple #[]) ∧ Inv (l ++ [(x, f)]) w' ∧ KeepsUp E V w'

set_option maxHeartbeats 4000000 in
theorem each_any {P : List Int} {n : Nat} {A : Option Addr} {c : Nat} {w0 : World} {E : Nat} {fn : FuncId} {caps : Array Value} {Inv : List (Nat × Nat) → World → Prop} (hS : Sees w0 E fn caps Inv) (hP : NodesAt w0 A P n) {i : Nat} {s : St} (hs : IsSt P i s) (hi : i < n) :
    ∀ (u : Nat) (l : List (Nat × Nat)) (V : World), u < 64 → Inv l V →
    Calls Tryd.prog 41 #[.slice A n c, .int .i64 i, .int .i64 u, .func (.func fn) #[] caps] V fun e w' => e = .returned (.tuple #[]) ∧ Inv (l ++ s.sets u) w' ∧ KeepsUp E V w' := by
  induction hs with
  | @skip i h0 =>
    intro u l V hu hI
    obtain ⟨b, off, rfl, p0, p1, p2, p3, p4⟩ := (hP.below (B := 0) (hS.low l V hI)).cells hi
    rw [h0] at p0
    have hb : Below V.heap.size V (V.alloc (.cells #[.int .i64 5, .int .i64 (nd P i 1), .int .i64 (nd P i 2), .int .i64 (nd P i 3), .int .i64 (nd P i 4)] 51)) := (Below.refl _ _).alloc (Nat.le_refl _) _
    have Hi := Lib.hid (hS.keep _ _ _ hI hb)
    have Hk := Lib.hid (KeepsUp.below (E := E) hb)
    have Hl := Lib.hid (show l ++ St.sets .skip u = l by simp [St.sets])
    clear hI h0 hb
    go_enter Tryd.func41, Tryd.ntmps41
    go_wp2_with fail
    go_end0
    exact ⟨rfl, by rw [Hl.out]; exact Hi.out, Hk.out⟩
  | @set i m a x h0 h1 h6 h2 ha hx =>
    intro u l V hu hI
    obtain ⟨b, off, rfl, p0, p1, p2, p3, p4⟩ := (hP.below (B := 0) (hS.low l V hI)).cells hi
    rw [h0] at p0
    rw [h1] at p1
    rw [h2] at p2
    have hb : Below V.heap.size V (V.alloc (.cells #[.int .i64 6, .int .i64 m, .int .i64 a, .int .i64 (nd P i 3), .int .i64 (nd P i 4)] 51)) := (Below.refl _ _).alloc (Nat.le_refl _) _
    have hx0 := BoxN.new V 51 #[.int .i64 6, .int .i64 m, .int .i64 a, .int .i64 (nd P i 3), .int .i64 (nd P i 4)]
    have hEV := hS.up l V hI
    have hP0 := hP.below (B := 0) (hS.low l V hI)
    have hI0 := hS.keep _ _ _ hI hb
    have hk0 : KeepsUp E V (V.alloc (.cells #[.int .i64 6, .int .i64 m, .int .i64 a, .int .i64 (nd P i 3), .int .i64 (nd P i 4)] 51)) := KeepsUp.below hb
    have hsz : V.heap.size < (V.alloc (.cells #[.int .i64 6, .int .i64 m, .int .i64 a, .int .i64 (nd P i 3), .int .i64 (nd P i 4)] 51)).heap.size := by simp
    have hlx := Ex.names_lt hx.ok
    have Ho := Lib.hid (bits_or_nat u x.names (by omega) (by omega))
    have Hl := Lib.hid (show St.sets (.set m x) u = [(m, u ||| x.names)] from rfl)
    have hr64 : u ||| x.names < 64 := Nat.or_lt_two_pow (n := 6) hu hlx
    have HN := Lib.hid (fun W (hW : Below V.heap.size V W) => names_any (c := c) hx (by omega) W (hP0.below (B := 0) hW))
    generalize u ||| x.names = f at *
    generalize x.names = xn at *
    clear h0 h1 h2 hx hP hlx hP0
    generalize nd P i 3 = q3 at *
    generalize nd P i 4 = q4 at *
    go_enter Tryd.func41, Tryd.ntmps41
    go_wp2_with fail
    generalize (V.alloc (.cells #[.int .i64 6, .int .i64 m, .int .i64 a, .int .i64 q3, .int .i64 q4] 51)) = W at *
    have e1 : W.cell? ⟨V.heap.size, 1, none⟩ = some (.int .i64 (m : Nat)) := hx0.cell rfl
    have e2 : W.cell? ⟨V.heap.size, 2, none⟩ = some (.int .i64 (a : Nat)) := hx0.cell rfl
    have HS := Lib.hid (fun X (hX : Below W.heap.size W X) => hS.call l m f X (hS.keep _ _ _ hI0 hX) h6 hr64)
    have HN1 := Lib.hid (fun X (hX : Below W.heap.size W X) => (HN.out X (hb.trans (hX.mono hb.size))).mono fun r w' ⟨he, hx⟩ => (⟨he, hX.trans (hx.mono hX.size)⟩ : _ ∧ Below W.heap.size W w'))
    have hKeep := Lib.hid (fun X (hX : KeepsUp E W X) => (⟨(hX.box hx0 hEV).cell rfl, (hX.box hx0 hEV).cell rfl⟩ : X.cell? ⟨V.heap.size, 1, none⟩ = some (.int .i64 (m : Nat)) ∧ X.cell? ⟨V.heap.size, 2, none⟩ = some (.int .i64 (a : Nat))))
    have hrc : ∀ (args : Array Value) (X : World), (callFunc fn args).run Tryd.prog X = .ok (.enter fn args) X := fun args X => hS.enters args X
    have hbr := (Below.refl W.heap.size W).drew
    have hkr : KeepsUp E W W.drew := KeepsUp.below hbr
    have HI0 := Lib.hid hI0
    have Hk0 := Lib.hid hk0
    clear HN hI hI0 hb e1 e2 hk0
    go_region_held3 (fun X => X.cell? ⟨V.heap.size, 1, none⟩ = some (.int .i64 (m : Nat)) ∧ X.cell? ⟨V.heap.size, 2, none⟩ = some (.int .i64 (a : Nat)))
      ((refine hKeep.out _ ?_; assumption))
      ((first | (go_at_call 67; with_reducible refine (HN1.out _ (by assumption)).mono ?_; rintro r w1 ⟨rfl, hb1⟩; have hk1 : KeepsUp E W w1 := KeepsUp.below hb1) | (rw [Ho.out]; with_reducible refine (HS.out _ (by assumption)).mono ?_; rintro r w2 ⟨rfl, hI2, hk2⟩; have hk3 : KeepsUp E W w2 := hk1.trans hk2)))
    all_goals go_wp2_with fail
    all_goals go_end0
    all_goals exact ⟨rfl, by rw [Hl.out]; exact hI2, Hk0.out.trans hk3⟩
  | @both i a b x y h0 h2 h3 la lb hx hy iha ihb =>
    intro u l V hu hI
    obtain ⟨bb, off, rfl, p0, p1, p2, p3, p4⟩ := (hP.below (B := 0) (hS.low l V hI)).cells hi
    rw [h0] at p0
    rw [h2] at p2
    rw [h3] at p3
    have hb : Below V.heap.size V (V.alloc (.cells #[.int .i64 7, .int .i64 (nd P i 1), .int .i64 a, .int .i64 b, .int .i64 (nd P i 4)] 51)) := (Below.refl _ _).alloc (Nat.le_refl _) _
    have hx0 := BoxN.new V 51 #[.int .i64 7, .int .i64 (nd P i 1), .int .i64 a, .int .i64 b, .int .i64 (nd P i 4)]
    have hEV := hS.up l V hI
    have hP0 := hP.below (B := 0) (hS.low l V hI)
    have hI0 := hS.keep _ _ _ hI hb
    have hk0 : KeepsUp E V (V.alloc (.cells #[.int .i64 7, .int .i64 (nd P i 1), .int .i64 a, .int .i64 b, .int .i64 (nd P i 4)] 51)) := KeepsUp.below hb
    have hsz : V.heap.size < (V.alloc (.cells #[.int .i64 7, .int .i64 (nd P i 1), .int .i64 a, .int .i64 b, .int .i64 (nd P i 4)] 51)).heap.size := by simp
    have Ha := Lib.hid (iha (by omega) u l)
    have Hb := Lib.hid (ihb (by omega) u (l ++ x.sets u))
    have Hl := Lib.hid (show l ++ St.sets (.both x y) u = (l ++ x.sets u) ++ y.sets u by rw [St.sets, List.append_assoc])
    clear h0 h2 h3 hx hy hP hP0 iha ihb
    generalize nd P i 1 = q1 at *
    generalize nd P i 4 = q4 at *
    go_enter Tryd.func41, Tryd.ntmps41
    go_wp2_with fail
    generalize (V.alloc (.cells #[.int .i64 7, .int .i64 q1, .int .i64 a, .int .i64 b, .int .i64 q4] 51)) = W at *
    clear p0 p1 p2 p3 p4 hI hb
    have e2 : W.cell? ⟨V.heap.size, 2, none⟩ = some (.int .i64 (a : Nat)) := hx0.cell rfl
    go_wp2_with fail
    refine (Ha.out W hu hI0).mono ?_
    rintro r w1 ⟨rfl, hI1, hk1⟩
    have e3 : w1.cell? ⟨V.heap.size, 3, none⟩ = some (.int .i64 (b : Nat)) := (hk1.box hx0 hEV).cell rfl
    clear e2
    go_wp2_with fail
    refine (Hb.out w1 hu hI1).mono ?_
    rintro r w2 ⟨rfl, hI2, hk2⟩
    go_wp2_with fail
    go_end0
    exact ⟨rfl, by rw [Hl.out]; exact hI2, (hk0.trans hk1).trans hk2⟩
  | @ite i a b d x y z h0 h2 h3 h4 la lb ld hx hy hz ihb ihd =>
    intro u l V hu hI
    obtain ⟨bb, off, rfl, p0, p1, p2, p3, p4⟩ := (hP.below (B := 0) (hS.low l V hI)).cells hi
    rw [h0] at p0
    rw [h2] at p2
    rw [h3] at p3
    rw [h4] at p4
    have hb : Below V.heap.size V (V.alloc (.cells #[.int .i64 8, .int .i64 (nd P i 1), .int .i64 a, .int .i64 b, .int .i64 d] 51)) := (Below.refl _ _).alloc (Nat.le_refl _) _
    have hx0 := BoxN.new V 51 #[.int .i64 8, .int .i64 (nd P i 1), .int .i64 a, .int .i64 b, .int .i64 d]
    have hEV := hS.up l V hI
    have hP0 := hP.below (B := 0) (hS.low l V hI)
    have hI0 := hS.keep _ _ _ hI hb
    have hk0 : KeepsUp E V (V.alloc (.cells #[.int .i64 8, .int .i64 (nd P i 1), .int .i64 a, .int .i64 b, .int .i64 d] 51)) := KeepsUp.below hb
    have hsz : V.heap.size < (V.alloc (.cells #[.int .i64 8, .int .i64 (nd P i 1), .int .i64 a, .int .i64 b, .int .i64 d] 51)).heap.size := by simp
    have hlx := Ex.names_lt hx.ok
    have Ho := Lib.hid (bits_or_nat u x.names (by omega) (by omega))
    have hr64 : u ||| x.names < 64 := Nat.or_lt_two_pow (n := 6) hu hlx
    have HN := Lib.hid (fun W (hW : Below V.heap.size V W) => names_any (c := c) hx (by omega) W (hP0.below (B := 0) hW))
    have Hb := Lib.hid (ihb (by omega) (u ||| x.names) l)
    have Hd := Lib.hid (ihd (by omega) (u ||| x.names) (l ++ y.sets (u ||| x.names)))
    have Hl := Lib.hid (show l ++ St.sets (.ite x y z) u = (l ++ y.sets (u ||| x.names)) ++ z.sets (u ||| x.names) by rw [St.sets, List.append_assoc])
    clear h0 h2 h3 h4 hx hy hz hP hP0 ihb ihd hlx
    generalize u ||| x.names = f at *
    generalize x.names = xn at *
    generalize nd P i 1 = q1 at *
    go_enter Tryd.func41, Tryd.ntmps41
    go_wp2_with fail
    generalize (V.alloc (.cells #[.int .i64 8, .int .i64 q1, .int .i64 a, .int .i64 b, .int .i64 d] 51)) = W at *
    clear p0 p1 p2 p3 p4
    have e2 : W.cell? ⟨V.heap.size, 2, none⟩ = some (.int .i64 (a : Nat)) := hx0.cell rfl
    have hkp := Lib.hid (hS.keep l W)
    clear hI
    go_wp2_with fail
    refine (HN.out W hb).mono ?_
    rintro r w1 ⟨rfl, hb1⟩
    have hI1 := hkp.out _ hI0 hb1
    have hk1 : KeepsUp E W w1 := KeepsUp.below hb1
    have e3 : w1.cell? ⟨V.heap.size, 3, none⟩ = some (.int .i64 (b : Nat)) := (hk1.box hx0 hEV).cell rfl
    clear e2 HN hb hb1
    go_wp2_with fail
    rw [Ho.out]
    refine (Hb.out w1 hr64 hI1).mono ?_
    rintro r w2 ⟨rfl, hI2, hk2⟩
    have e4 : w2.cell? ⟨V.heap.size, 4, none⟩ = some (.int .i64 (d : Nat)) := ((hk1.trans hk2).box hx0 hEV).cell rfl
    clear e3
    go_wp2_with fail
    refine (Hd.out w2 hr64 hI2).mono ?_
    rintro r w3 ⟨rfl, hI3, hk3⟩
    go_wp2_with fail
    go_end0
    exact ⟨rfl, by rw [Hl.out]; exact hI3, ((hk0.trans hk1).trans hk2).trans hk3⟩
  | @loop i a b x y h0 h2 h3 la lb hx hy ihb =>
    intro u l V hu hI
    obtain ⟨bb, off, rfl, p0, p1, p2, p3, p4⟩ := (hP.below (B := 0) (hS.low l V hI)).cells hi
    rw [h0] at p0
    rw [h2] at p2
    rw [h3] at p3
    have hb : Below V.heap.size V (V.alloc (.cells #[.int .i64 9, .int .i64 (nd P i 1), .int .i64 a, .int .i64 b, .int .i64 (nd P i 4)] 51)) := (Below.refl _ _).alloc (Nat.le_refl _) _
    have hx0 := BoxN.new V 51 #[.int .i64 9, .int .i64 (nd P i 1), .int .i64 a, .int .i64 b, .int .i64 (nd P i 4)]
    have hEV := hS.up l V hI
    have hP0 := hP.below (B := 0) (hS.low l V hI)
    have hI0 := hS.keep _ _ _ hI hb
    have hk0 : KeepsUp E V (V.alloc (.cells #[.int .i64 9, .int .i64 (nd P i 1), .int .i64 a, .int .i64 b, .int .i64 (nd P i 4)] 51)) := KeepsUp.below hb
    have hsz : V.heap.size < (V.alloc (.cells #[.int .i64 9, .int .i64 (nd P i 1), .int .i64 a, .int .i64 b, .int .i64 (nd P i 4)] 51)).heap.size := by simp
    have hlx := Ex.names_lt hx.ok
    have Ho := Lib.hid (bits_or_nat u x.names (by omega) (by omega))
    have hr64 : u ||| x.names < 64 := Nat.or_lt_two_pow (n := 6) hu hlx
    have HN := Lib.hid (fun W (hW : Below V.heap.size V W) => names_any (c := c) hx (by omega) W (hP0.below (B := 0) hW))
    have Hb := Lib.hid (ihb (by omega) (u ||| x.names) l)
    have Hl := Lib.hid (show l ++ St.sets (.loop x y) u = l ++ y.sets (u ||| x.names) from rfl)
    clear h0 h2 h3 hx hy hP hP0 ihb hlx
    generalize u ||| x.names = f at *
    generalize x.names = xn at *
    generalize nd P i 1 = q1 at *
    generalize nd P i 4 = q4 at *
    go_enter Tryd.func41, Tryd.ntmps41
    go_wp2_with fail
    generalize (V.alloc (.cells #[.int .i64 9, .int .i64 q1, .int .i64 a, .int .i64 b, .int .i64 q4] 51)) = W at *
    clear p0 p1 p2 p3 p4
    have HS := Lib.hid (fun X (hX : Below W.heap.size W X) => Hb.out X hr64 (hS.keep _ _ _ hI0 hX))
    have HN1 := Lib.hid (fun X (hX : Below W.heap.size W X) => (HN.out X (hb.trans (hX.mono hb.size))).mono fun r w' ⟨he, hx⟩ => (⟨he, hX.trans (hx.mono hX.size)⟩ : _ ∧ Below W.heap.size W w'))
    have hKeep := Lib.hid (fun X (hX : KeepsUp E W X) => (⟨(hX.box hx0 hEV).cell rfl, (hX.box hx0 hEV).cell rfl⟩ : X.cell? ⟨V.heap.size, 2, none⟩ = some (.int .i64 (a : Nat)) ∧ X.cell? ⟨V.heap.size, 3, none⟩ = some (.int .i64 (b : Nat))))
    have hbr := (Below.refl W.heap.size W).drew
    have hkr : KeepsUp E W W.drew := KeepsUp.below hbr
    have HI0 := Lib.hid hI0
    have Hk0 := Lib.hid hk0
    clear HN hI hI0 hb hk0 Hb
    go_region_held3 (fun X => X.cell? ⟨V.heap.size, 2, none⟩ = some (.int .i64 (a : Nat)) ∧ X.cell? ⟨V.heap.size, 3, none⟩ = some (.int .i64 (b : Nat)))
      ((refine hKeep.out _ ?_; assumption))
      ((first | (go_at_call 67; with_reducible refine (HN1.out _ (by assumption)).mono ?_; rintro r w1 ⟨rfl, hb1⟩; have hk1 : KeepsUp E W w1 := KeepsUp.below hb1) | (go_at_call 41; rw [Ho.out]; with_reducible refine (HS.out _ (by assumption)).mono ?_; rintro r w2 ⟨rfl, hI2, hk2⟩; have hk3 : KeepsUp E W w2 := hk1.trans hk2)))
    all_goals go_wp2_with fail
    all_goals go_end0
    all_goals exact ⟨rfl, by rw [Hl.out]; exact hI2, Hk0.out.trans hk3⟩
end Go.Proofs.YtdgncngkalgknaaDoor

namespace Go.Proofs.YtdgncngkalgknaaDoor
open Go.RowKit Go.Shelf
set_option maxRecDepth 100000
set_option linter.unusedVariables false

/-- Of each variable what flows into it by a setting. -/
def rowsOf (l : List (Nat × Nat)) : List Nat := l.foldl (fun r p => r.set p.1 (row r p.1 ||| p.2)) (List.replicate 6 0)
theorem rowsOf_snoc (l : List (Nat × Nat)) (p : Nat × Nat) : rowsOf (l ++ [p]) = (rowsOf l).set p.1 (row (rowsOf l) p.1 ||| p.2) := by unfold rowsOf; rw [List.foldl_append]; rfl
theorem length_rowsOf (l : List (Nat × Nat)) : (rowsOf l).length = 6 := by
  unfold rowsOf
  have : ∀ (l : List (Nat × Nat)) (r : List Nat), (l.foldl (fun r p => r.set p.1 (row r p.1 ||| p.2)) r).length = r.length := fun l => by
    induction l with
    | nil => intro r; rfl
    | cons p l ih => intro r; rw [List.foldl_cons, ih, List.length_set]
  rw [this]; rfl
theorem row_set' (l : List Nat) (i j x : Nat) : row (l.set i x) j = if i = j ∧ i < l.length then x else row l j := by
  by_cases hi : i < l.length
  · rw [row_set _ _ _ _ hi]
    by_cases h : i = j
    · rw [if_pos h, if_pos ⟨h, hi⟩]
    · rw [if_neg h, if_neg (fun e => h e.1)]
  · rw [if_neg (fun e => hi e.2), List.set_eq_of_length_le (by omega)]
theorem rowsOf_bit {l : List (Nat × Nat)} (hl : ∀ p ∈ l, p.1 < 6) {i j : Nat} : (row (rowsOf l) i).testBit j = true ↔ ∃ p ∈ l, p.1 = i ∧ p.2.testBit j = true := by
  unfold rowsOf
  have : ∀ (l : List (Nat × Nat)) (r : List Nat), r.length = 6 → (∀ p ∈ l, p.1 < 6) → ((row (l.foldl (fun r p => r.set p.1 (row r p.1 ||| p.2)) r) i).testBit j = true ↔ (row r i).testBit j = true ∨ ∃ p ∈ l, p.1 = i ∧ p.2.testBit j = true) := fun l => by
    induction l with
    | nil => intro r _ _; simp
    | cons p l ih =>
      intro r hr hp
      have hp1 := hp p (List.mem_cons_self ..)
      rw [List.foldl_cons, ih _ (by simp [hr]) (fun q hq => hp q (List.mem_cons_of_mem _ hq)), row_set' ]
      simp only [List.mem_cons, exists_eq_or_imp]
      by_cases h : p.1 = i
      · subst h
        rw [if_pos ⟨rfl, by omega⟩, tb_or, Bool.or_eq_true]
        simp [or_assoc]
      · rw [if_neg (fun e => h e.1)]
        simp [h]
  rw [this l _ rfl hl]
  have h0 : row (List.replicate 6 0) i = 0 := by
    unfold row
    rw [List.getElem?_replicate]
    split <;> rfl
  rw [h0]; simp
theorem sets_lt {s : St} (hs : s.ok) : ∀ {u : Nat}, u < 64 → ∀ p ∈ s.sets u, p.1 < 6 ∧ p.2 < 64 := by
  induction s with
  | skip => intro u hu p hp; simp [St.sets] at hp
  | set x e =>
    intro u hu p hp
    simp [St.sets] at hp
    subst hp
    exact ⟨hs.1, Nat.or_lt_two_pow (n := 6) hu (Ex.names_lt hs.2)⟩
  | both a b iha ihb => intro u hu p hp; simp only [St.sets, List.mem_append] at hp; exact hp.elim (fun h => iha hs.1 hu p h) (fun h => ihb hs.2 hu p h)
  | ite e a b iha ihb =>
    intro u hu p hp
    have hu' : u ||| e.names < 64 := Nat.or_lt_two_pow (n := 6) hu (Ex.names_lt hs.1)
    simp only [St.sets, List.mem_append] at hp; exact hp.elim (fun h => iha hs.2.1 hu' p h) (fun h => ihb hs.2.2 hu' p h)
  | loop e a iha =>
    intro u hu p hp
    have hu' : u ||| e.names < 64 := Nat.or_lt_two_pow (n := 6) hu (Ex.names_lt hs.1)
    exact iha hs.2 hu' p hp
theorem rowsOf_bd {l : List (Nat × Nat)} (hl : ∀ p ∈ l, p.1 < 6 ∧ p.2 < 64) (i : Nat) : row (rowsOf l) i < 2 ^ 6 := by
  refine Nat.lt_pow_two_of_testBit _ fun j hj => ?_
  cases h : (row (rowsOf l) i).testBit j with
  | false => rfl
  | true =>
    obtain ⟨p, hp, _, hb⟩ := (rowsOf_bit fun p hp => (hl p hp).1).1 h
    have := bit_below (n := 6) (hl p hp).2 hb
    omega

/-- Do all settings fit? -/
def fitB (L : List Int) (l : List (Nat × Nat)) : Bool := l.all fun p => decide (hiI L (bitsOf p.2) ≤ gI L p.1)
theorem fitB_snoc (L : List Int) (l : List (Nat × Nat)) (p : Nat × Nat) : fitB L (l ++ [p]) = (fitB L l && decide (hiI L (bitsOf p.2) ≤ gI L p.1)) := by unfold fitB; rw [List.all_append]; simp

set_option maxHeartbeats 1000000 in
theorem From1_any {V : World} {rb g x f : Nat} {r : List Nat} (hx : BoxN V rb 22 #[.slice (some ⟨g, 0, none⟩) 6 6]) (hg : OwnAt V g 3 ((castL r).map (Value.int .i64))) (h6 : r.length = 6) (hr : ∀ i, row r i < 64) (hx6 : x < 6) (hf : f < 64) :
    Calls Tryd.prog 60 #[.int .i64 (x : Nat), .int .i64 (f : Nat), .pointer (some ⟨rb, 0, none⟩)] V fun e w' => e = .returned (.tuple #[]) ∧ w' = V.setCell ⟨g, x, none⟩ (.int .i64 (row r x ||| f : Nat)) := by
  have a1 : V.cell? ⟨rb, 0, none⟩ = some (.slice (some ⟨g, 0, none⟩) 6 6) := hx.cell rfl
  have a2 := hg.cell (get_cast_val r x (by omega))
  have a3 := hg.free x
  have Ho := Lib.hid (bits_or_nat (row r x) f (by have := hr x; omega) (by omega))
  clear hx hg hr
  generalize row r x = rx at *
  go_enter Tryd.func60, Tryd.ntmps60
  go_wp2_with fail
  go_end0
  exact ⟨rfl, by rw [Ho.out]⟩

/-- What From's closure has made of settings. -/
structure FromInv (w0 : World) (E rb g : Nat) (l : List (Nat × Nat)) (V : World) : Prop where
  low : Below w0.heap.size w0 V
  up : E ≤ V.heap.size
  box : BoxN V rb 22 #[.slice (some ⟨g, 0, none⟩) 6 6]
  row : OwnAt V g 3 ((castL (rowsOf l)).map (Value.int .i64))
  ok : ∀ p ∈ l, p.1 < 6 ∧ p.2 < 64
theorem zeros_new (w : World) (m : Nat) : OwnAt (w.alloc (.cells (madeCells #[Value.int .i64 0] m) 3)) w.heap.size 3 ((castL (List.replicate m 0)).map (Value.int .i64)) := by
  unfold castL
  rw [List.map_replicate, List.map_replicate]
  refine ⟨_, heap_alloc_new w _, ?_, ?_⟩
  · simp [← Array.length_toList, toList_madeCells_one]
  · intro j v hj
    rw [← Array.getElem?_toList, toList_madeCells_one]
    exact hj
theorem ints_ne_slices : 3 ≠ 22 := by decide
theorem from_sees {w0 : World} {E rb g : Nat} (hg : w0.heap.size ≤ g) (hgE : g < E) : Sees w0 E 60 #[.pointer (some ⟨rb, 0, none⟩)] (FromInv w0 E rb g) where
  enters := enters_of Tryd.func60 (by kernel_rfl) rfl
  low _ _ h := h.low
  up _ _ h := h.up
  keep _ _ _ h hb := ⟨h.low.trans (hb.mono h.low.size), Nat.le_trans h.up hb.size, h.box.all hb, h.row.all hb, h.ok⟩
  call l x f V h hx hf := (From1_any h.box h.row (length_rowsOf l) (rowsOf_bd h.ok) hx hf).mono fun e w' ⟨he, hw⟩ => by
    subst hw
    refine ⟨he, ⟨h.low.setCell (p := ⟨g, x, none⟩) hg _, by simp; exact h.up, h.box.other (a := ⟨g, x, none⟩) (h.row.ne_box h.box ints_ne_slices).symm _, ?_, ?_⟩, ⟨by simp, fun b hb hl => ?_⟩⟩
    · rw [rowsOf_snoc, map_set_cast]
      exact h.row.set (by rw [List.length_map, length_castL, length_rowsOf]; exact hx) _
    · intro p hp
      rcases List.mem_append.1 hp with hp | hp
      · exact h.ok p hp
      · obtain rfl := List.mem_singleton.1 hp; exact ⟨hx, hf⟩
    · exact Below.heap_setCell _ ⟨g, x, none⟩ _ b (by show b ≠ g; omega)

/-- Of each variable all that flow into it. -/
def fromL (s : St) : List Nat := closed (rowsOf (s.sets 0))
set_option maxHeartbeats 2000000 in
theorem From_ok {P : List Int} {n : Nat} {A : Option Addr} {c : Nat} {w : World} {s : St} (h : NodesAt w A P n) (hc : progCode P n = 0) (hs : IsSt P (n - 1) s) :
    Calls Tryd.prog 31 #[.slice A n c] w fun e w' => (∃ B c', e = .returned (.tuple #[.slice B 6 c', .nilIface]) ∧ IntsAt w' B (castL (fromL s))) ∧ Below w.heap.size w w' := by
  obtain ⟨⟨hn1, hn80⟩, -, -⟩ := progCode_tree hc
  have HC := PCheck_any (c := c) h
  rw [hc, errVal_zero] at HC
  have HC := Lib.hid HC
  have hmk := fun V : World => (show (Instr.makeSlice 22 (.int .i64 6) (.int .i64 6)).run Tryd.prog V = .ok (.slice (some ⟨V.heap.size, 0, none⟩) 6 6) (V.alloc (.cells (madeCells #[Value.int .i64 0] 6) 3)) by
    obtain ⟨ti, hi, hz0, hz1, hz2⟩ := info_parts intInfo
    have := run_make (P := Tryd.prog) (w := V) 22 3 ti _ Tryd.underlying22 hi hz0 .i64 .i64 6 6 (by omega) (Int.le_refl _) (by rw [hz2]; omega) (by omega)
    rw [hz1] at this
    exact this)
  have hsub : (n : Int) - 1 = ((n - 1 : Nat) : Int) := by omega
  have h1n : (1 : Int) ≤ n := by omega
  have hn40 := h.small
  go_enter Tryd.func31, Tryd.ntmps31
  go_wp2_with (go_at_call 30; with_reducible refine HC.out.mono ?_; rintro r w1 ⟨rfl, hb1⟩)
  have hs1 := hb1.size
  have hbW := (hb1.alloc hs1 (.cells (madeCells #[Value.int .i64 0] 6) 3)).alloc (by simp; omega) (.cells #[.slice (some ⟨w1.heap.size, 0, none⟩) 6 6] 22)
  have hbx := BoxN.new (w1.alloc (.cells (madeCells #[Value.int .i64 0] 6) 3)) 22 #[.slice (some ⟨w1.heap.size, 0, none⟩) 6 6]
  have hrw : OwnAt ((w1.alloc (.cells (madeCells #[Value.int .i64 0] 6) 3)).alloc (.cells #[.slice (some ⟨w1.heap.size, 0, none⟩) 6 6] 22)) w1.heap.size 3 ((castL (rowsOf [])).map (Value.int .i64)) := OwnAt.alloc (zeros_new w1 6) _
  simp only [World.size_alloc] at hbx
  have hszW : ((w1.alloc (.cells (madeCells #[Value.int .i64 0] 6) 3)).alloc (.cells #[.slice (some ⟨w1.heap.size, 0, none⟩) 6 6] 22)).heap.size = w1.heap.size + 2 := by simp
  generalize ((w1.alloc (.cells (madeCells #[Value.int .i64 0] 6) 3)).alloc (.cells #[.slice (some ⟨w1.heap.size, 0, none⟩) 6 6] 22)) = W at *
  have HE : Calls Tryd.prog 41 #[.slice A n c, .int .i64 ((n - 1 : Nat) : Int), .int .i64 0, .func (.func 60) #[] #[.pointer (some ⟨w1.heap.size + 1, 0, none⟩)]] W fun e w' => e = .returned (.tuple #[]) ∧ FromInv w (w1.heap.size + 2) (w1.heap.size + 1) w1.heap.size ([] ++ s.sets 0) w' ∧ KeepsUp (w1.heap.size + 2) W w' :=
    each_any (from_sees (by omega) (by omega)) h hs (by omega) 0 [] W (by decide) ⟨hbW, by omega, hbx, hrw, fun p hp => by cases hp⟩
  refine HE.mono ?_
  rintro r w2 ⟨rfl, hI, -⟩
  have hrb := rowsOf_bd hI.ok
  have hcl := Closure_ok (rowsOf ([] ++ s.sets 0)) (by rw [length_rowsOf]; decide) (fun i => by rw [length_rowsOf]; exact hrb i) (some ⟨w1.heap.size, 0, none⟩) 6 w2 hI.row.ints
  rw [length_rowsOf] at hcl
  rw [List.nil_append] at hcl
  have Hcl := Lib.hid hcl
  have e1 : w2.cell? ⟨w1.heap.size + 1, 0, none⟩ = some (.slice (some ⟨w1.heap.size, 0, none⟩) 6 6) := hI.box.cell rfl
  have hlow := hI.low
  clear hI hrb hcl HE hbW hbx hrw hmk HC
  go_wp2_with fail
  refine Hcl.out.mono ?_
  rintro r w3 ⟨B, c', rfl, hints, hb3⟩
  go_wp2_with fail
  go_ret2
  exact ⟨⟨B, c', rfl, hints⟩, hlow.trans (hb3.mono hlow.size)⟩
theorem From_bad {P : List Int} {n : Nat} {A : Option Addr} {c : Nat} {w : World} {k : Nat} (h : NodesAt w A P n) (hc : progCode P n = k) (hk : k ≠ 0) :
    Calls Tryd.prog 31 #[.slice A n c] w fun e w' => e = .returned (.tuple #[.slice none 0 0, .iface 61 (.int .i64 k)]) ∧ Below w.heap.size w w' := by
  have HC := PCheck_any (c := c) h
  rw [hc, errVal_pos hk] at HC
  have HC := Lib.hid HC
  clear hc hk
  go_enter Tryd.func31, Tryd.ntmps31
  go_wp2_with (go_at_call 30; with_reducible refine HC.out.mono ?_; rintro r w1 ⟨rfl, hb1⟩)
  go_ret2
  exact ⟨rfl, hb1⟩

theorem Fits1_false {V : World} {ob lb x f : Nat} (a1 : V.cell? ⟨ob, 0, none⟩ = some (.bool false)) (f1 : V.frozen? ⟨ob, 0, none⟩ = false) :
    Calls Tryd.prog 69 #[.int .i64 (x : Nat), .int .i64 (f : Nat), .pointer (some ⟨ob, 0, none⟩), .pointer (some ⟨lb, 0, none⟩)] V fun e w' => e = .returned (.tuple #[]) ∧ w' = (V.setCell ⟨ob, 0, none⟩ (.bool false)).drew := by
  go_enter Tryd.func69, Tryd.ntmps69
  go_wp2_with fail
  go_region
  all_goals (go_end0; exact ⟨rfl, rfl⟩)
set_option maxHeartbeats 2000000 in
theorem Fits1_any {w0 V : World} {ob lb b off c x f : Nat} {L : List Int} {ok : Bool} (ho : BoxN V ob 4 #[.bool ok]) (hl : BoxN V lb 22 #[.slice (some ⟨b, off, none⟩) 6 c]) (hne : b < w0.heap.size) (hob : w0.heap.size ≤ ob) (hlow : Below w0.heap.size w0 V)
    (hL : IntsAt w0 (some ⟨b, off, none⟩) L) (h6 : L.length = 6) (hT : Tab w0) (hx6 : x < 6) (hf : f < 64) :
    Calls Tryd.prog 69 #[.int .i64 (x : Nat), .int .i64 (f : Nat), .pointer (some ⟨ob, 0, none⟩), .pointer (some ⟨lb, 0, none⟩)] V fun e w' => e = .returned (.tuple #[]) ∧ BoxN w' ob 4 #[.bool (ok && decide (hiI L (bitsOf f) ≤ gI L x))] ∧ KeepsBut ob V w' ∧ Below w0.heap.size w0 w' := by
  have hnl : ob ≠ lb := by
    rintro rfl
    have h1 : V.heap[ob]? = some (.cells #[.bool ok] 4 (0, 0)) := ho
    have h2 : V.heap[ob]? = some (.cells #[.slice (some ⟨b, off, none⟩) 6 c] 22 (0, 0)) := hl
    rw [h1] at h2
    injection h2 with h2
    injection h2 with _ h3
    exact absurd h3 (by decide)
  have a1 : V.cell? ⟨ob, 0, none⟩ = some (.bool ok) := ho.cell rfl
  have f1 := ho.free 0
  have hH := Lib.hid (fun X (hX : Below V.heap.size V X) => highest_any (c := c) h6 (hL.below (hlow.trans (hX.mono hlow.size))) (hT.next (hlow.trans (hX.mono hlow.size))) hf)
  obtain ⟨b', off', hA, hcl⟩ := hL (by intro e; rw [e] at h6; cases h6)
  injection hA with hA
  injection hA with hA1 hA2
  subst hA1; subst hA2
  have c1 : w0.cell? ⟨b, off + x, none⟩ = some (.int .i64 (gI L x)) := hcl x _ (get_gI (by omega))
  have c2 := (hlow.cell (p := ⟨b, off + x, none⟩) hne).trans c1
  have l1 : V.cell? ⟨lb, 0, none⟩ = some (.slice (some ⟨b, off, none⟩) 6 c) := hl.cell rfl
  have hxi : (x : Int) < 6 := by omega
  have hKeep := Lib.hid (fun X (hX : KeepsBut ob V X) => (⟨hX.cell l1 (fun e => hnl e.symm), hX.cell c2 (by show b ≠ ob; omega)⟩ : X.cell? ⟨lb, 0, none⟩ = some (.slice (some ⟨b, off, none⟩) 6 c) ∧ X.cell? ⟨b, off + x, none⟩ = some (.int .i64 (gI L x))))
  have hbr := (Below.refl V.heap.size V).drew
  have hkr : KeepsBut ob V V.drew := KeepsBut.below hbr
  have Hlow := Lib.hid hlow
  have Ho := Lib.hid ho
  clear hL hT hcl c1 hl ho hlow h6
  generalize hiI L (bitsOf f) = hv at *
  generalize gI L x = lv at *
  cases ok with
  | false =>
    exact (Fits1_false a1 f1).mono fun e w' ⟨he, hw⟩ => by
      subst hw
      exact ⟨he, (Ho.out.set 0 (.bool false)).drew, KeepsBut.below' ((KeepsBut.refl ob V).setCell 0 (.bool false)), (Hlow.out.setCell (p := ⟨ob, 0, none⟩) hob _).drew⟩
  | true =>
    by_cases hle : hv ≤ lv
    · have hd : decide (hv ≤ lv) = true := decide_eq_true hle
      rw [hd]
      go_enter Tryd.func69, Tryd.ntmps69
      go_wp2_with fail
      go_region_with (go_at_call 43; with_reducible refine (hH.out _ hbr).mono ?_; rintro r w1 ⟨rfl, hb1⟩; have hb2 : Below V.heap.size V w1 := hbr.trans (hb1.mono hbr.size); have hk1 : KeepsBut ob V w1 := KeepsBut.below hb2; obtain ⟨l2, c3⟩ := hKeep.out w1 hk1; have fz := (Ho.out.all hb2).free 0; have cz := (Ho.out.all hb2).cell (k := 0) rfl)
      all_goals go_wp2_with fail
      all_goals go_end0
      all_goals exact ⟨rfl, (Ho.out.all hb2).set 0 (.bool true), hk1.setCell _ _, (Hlow.out.trans (hb2.mono Hlow.out.size)).setCell (p := ⟨ob, 0, none⟩) hob _⟩
    · have hd : decide (hv ≤ lv) = false := decide_eq_false hle
      rw [hd]
      go_enter Tryd.func69, Tryd.ntmps69
      go_wp2_with fail
      go_region_with (go_at_call 43; with_reducible refine (hH.out _ hbr).mono ?_; rintro r w1 ⟨rfl, hb1⟩; have hb2 : Below V.heap.size V w1 := hbr.trans (hb1.mono hbr.size); have hk1 : KeepsBut ob V w1 := KeepsBut.below hb2; obtain ⟨l2, c3⟩ := hKeep.out w1 hk1; have fz := (Ho.out.all hb2).free 0; have cz := (Ho.out.all hb2).cell (k := 0) rfl)
      all_goals go_wp2_with fail
      all_goals go_end0
      all_goals exact ⟨rfl, (Ho.out.all hb2).set 0 (.bool false), hk1.setCell _ _, (Hlow.out.trans (hb2.mono Hlow.out.size)).setCell (p := ⟨ob, 0, none⟩) hob _⟩
end Go.Proofs.YtdgncngkalgknaaDoor

namespace Go.Proofs.YtdgncngkalgknaaDoor
open Go.RowKit Go.Shelf
set_option maxRecDepth 100000
set_option linter.unusedVariables false

/-- What Fits' closure has made of settings. -/
structure FitsInv (w0 : World) (E ob lb b off c : Nat) (L : List Int) (l : List (Nat × Nat)) (V : World) : Prop where
  low : Below w0.heap.size w0 V
  up : E ≤ V.heap.size
  ok : BoxN V ob 4 #[.bool (fitB L l)]
  lev : BoxN V lb 22 #[.slice (some ⟨b, off, none⟩) 6 c]
theorem bool_ne_slice {V : World} {ob lb : Nat} {v u : Value} (h : BoxN V ob 4 #[v]) (h' : BoxN V lb 22 #[u]) : lb ≠ ob := by
  rintro rfl
  have h1 : V.heap[lb]? = some (.cells #[v] 4 (0, 0)) := h
  have h2 : V.heap[lb]? = some (.cells #[u] 22 (0, 0)) := h'
  rw [h1] at h2
  injection h2 with h2
  injection h2 with _ h3
  exact absurd h3 (by decide)
theorem fits_sees {w0 : World} {E ob lb b off c : Nat} {L : List Int} (hob : w0.heap.size ≤ ob) (hoE : ob < E) (hb : b < w0.heap.size) (hL : IntsAt w0 (some ⟨b, off, none⟩) L) (h6 : L.length = 6) (hT : Tab w0) :
    Sees w0 E 69 #[.pointer (some ⟨ob, 0, none⟩), .pointer (some ⟨lb, 0, none⟩)] (FitsInv w0 E ob lb b off c L) where
  enters := enters_of Tryd.func69 (by kernel_rfl) rfl
  low _ _ h := h.low
  up _ _ h := h.up
  keep _ _ _ h hb := ⟨h.low.trans (hb.mono h.low.size), Nat.le_trans h.up hb.size, h.ok.all hb, h.lev.all hb⟩
  call l x f V h hx hf := (Fits1_any h.ok h.lev hb hob h.low hL h6 hT hx hf).mono fun e w' ⟨he, h1, h2, h3⟩ =>
    ⟨he, ⟨h3, Nat.le_trans h.up h2.size, by rw [fitB_snoc]; exact h1, h2.box h.lev (bool_ne_slice h.ok h.lev)⟩, ⟨h2.size, fun b hb hl => h2.block b (by omega) hl⟩⟩

def fitsCode (P : List Int) (n : Nat) (L : List Int) : Nat := if progCode P n = 0 then levCode L 0 else progCode P n
set_option maxHeartbeats 2000000 in
theorem Fits_bad {P : List Int} {n : Nat} {A : Option Addr} {c : Nat} {w : World} {L : List Int} {Al : Option Addr} {cl : Nat} {k : Nat} (h : NodesAt w A P n) (hL : IntsAt w Al L) (hk : fitsCode P n L = k) (hne : k ≠ 0) :
    Calls Tryd.prog 44 #[.slice A n c, .slice Al L.length cl] w fun e w' => e = .returned (.tuple #[.bool false, .iface 61 (.int .i64 k)]) ∧ Below w.heap.size w w' := by
  have hb0 : Below w.heap.size w (w.alloc (.cells #[.slice Al L.length cl] 22)) := (Below.refl _ _).alloc (Nat.le_refl _) _
  have HC := PCheck_any (c := c) (h.below (B := 0) hb0)
  have hx := BoxN.new w 22 #[.slice Al L.length cl]
  by_cases hc : progCode P n = 0
  · have hl : levCode L 0 = k := by rw [← hk]; unfold fitsCode; rw [if_pos hc]
    rw [hc, errVal_zero] at HC
    have HC := Lib.hid HC
    have HL := Lib.hid (fun V (hV : Below w.heap.size w V) => levels_any L 0 Al cl V (hL.below hV))
    rw [hl, errVal_pos hne] at HL
    clear hk hc hl hne h hL
    generalize L.length = m at *
    go_enter Tryd.func44, Tryd.ntmps44
    go_wp2_with fail
    refine HC.out.mono ?_
    rintro e w1 ⟨rfl, hb1⟩
    have e1 : w1.cell? ⟨w.heap.size, 0, none⟩ = some (.slice Al m cl) := (hx.all hb1).cell rfl
    have hbw := hb0.trans (hb1.mono hb0.size)
    clear HC
    go_wp2_with (go_at_call 40; with_reducible refine (HL.out _ hbw).mono ?_; rintro e w2 ⟨rfl, rfl⟩)
    go_ret2
    exact ⟨rfl, hbw⟩
  · have hl : progCode P n = k := by rw [← hk]; unfold fitsCode; rw [if_neg hc]
    rw [hl, errVal_pos hne] at HC
    have HC := Lib.hid HC
    clear hk hc hl hne h hL
    generalize L.length = m at *
    go_enter Tryd.func44, Tryd.ntmps44
    go_wp2_with fail
    refine HC.out.mono ?_
    rintro e w1 ⟨rfl, hb1⟩
    have hbw := hb0.trans (hb1.mono hb0.size)
    go_wp2_with fail
    go_ret2
    exact ⟨rfl, hbw⟩
theorem fitsCode_ok {P : List Int} {n : Nat} {L : List Int} (h : fitsCode P n L = 0) : progCode P n = 0 ∧ L.length = 6 ∧ ∀ x ∈ L, 0 ≤ x ∧ x ≤ 7 := by
  unfold fitsCode at h
  split at h
  · rename_i hc
    unfold levCode at h
    split at h
    · rename_i h6
      split at h
      · rename_i ha
        refine ⟨hc, h6, fun x hx => ?_⟩
        rw [List.all_eq_true] at ha
        exact of_decide_eq_true (ha x hx)
      · cases h
    · cases h
  · rename_i hc; exact absurd h hc
set_option maxHeartbeats 2000000 in
theorem Fits_ok {P : List Int} {n : Nat} {A : Option Addr} {c : Nat} {w : World} {L : List Int} {Al : Option Addr} {cl : Nat} {s : St} (h : NodesAt w A P n) (hL : IntsAt w Al L) (hk : fitsCode P n L = 0) (hs : IsSt P (n - 1) s) (hT : Tab w) {r : Bool} (hr : fitB L (s.sets 0) = r) :
    Calls Tryd.prog 44 #[.slice A n c, .slice Al L.length cl] w fun e w' => e = .returned (.tuple #[.bool r, .nilIface]) ∧ Below w.heap.size w w' := by
  obtain ⟨hc, h6, -⟩ := fitsCode_ok hk
  have hl : levCode L 0 = 0 := by unfold fitsCode at hk; rwa [if_pos hc] at hk
  obtain ⟨⟨hn1, hn80⟩, -, -⟩ := progCode_tree hc
  obtain ⟨b, off, rfl, hcl⟩ := hL (by intro e; rw [e] at h6; cases h6)
  have hbw : b < w.heap.size := block_lt (hcl 0 _ (get_gI (by omega)))
  have hb0 : Below w.heap.size w (w.alloc (.cells #[.slice (some ⟨b, off, none⟩) 6 cl] 22)) := (Below.refl _ _).alloc (Nat.le_refl _) _
  have HC := PCheck_any (c := c) (h.below (B := 0) hb0)
  have hx := BoxN.new w 22 #[.slice (some ⟨b, off, none⟩) 6 cl]
  rw [hc, errVal_zero] at HC
  have HC := Lib.hid HC
  have HL := Lib.hid (fun V (hV : Below w.heap.size w V) => levels_any L 0 (some ⟨b, off, none⟩) cl V (hL.below hV))
  rw [hl, errVal_zero] at HL
  rw [h6] at HL
  have hsub : (n : Int) - 1 = ((n - 1 : Nat) : Int) := by omega
  have h1n : (1 : Int) ≤ n := by omega
  have hn40 := h.small
  rw [h6]
  clear hk hc hl hcl
  go_enter Tryd.func44, Tryd.ntmps44
  go_wp2_with fail
  refine HC.out.mono ?_
  rintro e w1 ⟨rfl, hb1⟩
  have hx1 := hx.all hb1
  have e1 : w1.cell? ⟨w.heap.size, 0, none⟩ = some (.slice (some ⟨b, off, none⟩) 6 cl) := hx1.cell rfl
  have hbw1 := hb0.trans (hb1.mono hb0.size)
  have hs1 : w.heap.size + 1 ≤ w1.heap.size := by have := hb1.size; simp at this; omega
  clear HC hb0 hb1 hx
  go_wp2_with (go_at_call 40; with_reducible refine (HL.out _ hbw1).mono ?_; rintro e w2 ⟨rfl, rfl⟩)
  have hbW := hbw1.alloc hbw1.size (.cells #[.bool true] 4)
  have hox := BoxN.new w1 4 #[.bool true]
  have hlx := hx1.alloc (.cells #[.bool true] 4)
  have hszW : (w1.alloc (.cells #[.bool true] 4)).heap.size = w1.heap.size + 1 := by simp
  generalize (w1.alloc (.cells #[.bool true] 4)) = W at *
  have HE : Calls Tryd.prog 41 #[.slice A n c, .int .i64 ((n - 1 : Nat) : Int), .int .i64 0, .func (.func 69) #[] #[.pointer (some ⟨w1.heap.size, 0, none⟩), .pointer (some ⟨w.heap.size, 0, none⟩)]] W fun e w' => e = .returned (.tuple #[]) ∧ FitsInv w (w1.heap.size + 1) w1.heap.size w.heap.size b off cl L ([] ++ s.sets 0) w' ∧ KeepsUp (w1.heap.size + 1) W w' :=
    each_any (fits_sees hbw1.size (by omega) hbw hL h6 hT) h hs (by omega) 0 [] W (by decide) ⟨hbW, by omega, hox, hlx⟩
  clear HL
  refine HE.mono ?_
  rintro e w2 ⟨rfl, hI, -⟩
  have e2 : w2.cell? ⟨w1.heap.size, 0, none⟩ = some (.bool r) := by have h1 := hI.ok.cell (k := 0) rfl; rw [List.nil_append, hr] at h1; exact h1
  have hlow := hI.low
  clear hI HE
  go_wp2_with fail
  go_ret2
  exact ⟨rfl, hlow⟩
end Go.Proofs.YtdgncngkalgknaaDoor

namespace Go.Proofs.YtdgncngkalgknaaDoor
set_option linter.unusedVariables false

theorem list_of_rows {a b : List Nat} (hl : a.length = b.length) (h : ∀ i, i < a.length → row a i = row b i) : a = b := by
  refine List.ext_getElem hl fun i h1 h2 => ?_
  have := h i h1
  unfold row at this
  rw [List.getElem?_eq_getElem h1, List.getElem?_eq_getElem h2] at this
  exact this
theorem sub_eq {a b : Nat} (h : Sub a b) (k : Sub b a) : a = b := Nat.eq_of_testBit_eq fun j => by
  cases ha : a.testBit j with
  | true => rw [h j ha]
  | false =>
    cases hb : b.testBit j with
    | true => rw [k j hb] at ha; cases ha
    | false => rfl
theorem closed_closed {r : List Nat} (hb : Bd r.length r) : closed (closed r) = closed r := by
  have hl := length_closed r
  have h1 := closed_inv r
  have h2 := closed_inv (closed r)
  refine list_of_rows (length_closed _) fun i hi => ?_
  rw [length_closed, hl] at hi
  refine sub_eq (h2.least (closed r) (fun i hi => ?_) i (by rw [hl]; exact hi)) (h2.more i (by rw [hl]; exact hi))
  rw [hl] at hi
  exact ⟨h1.self i hi, Sub.refl _, fun j hj hij => h1.trans i j hi (by rw [hl] at hj; exact hj) (by rw [hl] at hj; exact hj) hij⟩

section
variable {s : St} {L : List Int}
theorem fromL_len (s : St) : (fromL s).length = 6 := by unfold fromL; rw [length_closed, length_rowsOf]
theorem fromL_bd (hs : s.ok) : Bd 6 (fromL s) := by
  have h : Bd (rowsOf (s.sets 0)).length (rowsOf (s.sets 0)) := fun i => by rw [length_rowsOf]; exact rowsOf_bd (fun p hp => sets_lt hs (by decide) p hp) i
  have := h.closedTo (rowsOf (s.sets 0)).length
  rw [length_rowsOf] at this
  unfold fromL closed
  rw [length_rowsOf]
  exact this
theorem fromL_closed (hs : s.ok) : closed (fromL s) = fromL s := by
  unfold fromL
  exact closed_closed (fun i => by rw [length_rowsOf]; exact rowsOf_bd (fun p hp => sets_lt hs (by decide) p hp) i)
theorem fromL_more (hs : s.ok) {p : Nat × Nat} (hp : p ∈ s.sets 0) {j : Nat} (hj : p.2.testBit j = true) : (row (fromL s) p.1).testBit j = true := by
  have h := closed_inv (rowsOf (s.sets 0))
  have h6 := (sets_lt hs (by decide) p hp).1
  exact h.more p.1 (by rw [length_rowsOf]; exact h6) j ((rowsOf_bit fun q hq => (sets_lt hs (by decide) q hq).1).2 ⟨p, hp, rfl, hj⟩)
theorem fromL_self (s : St) {i : Nat} (hi : i < 6) : (row (fromL s) i).testBit i = true := (closed_inv (rowsOf (s.sets 0))).self i (by rw [length_rowsOf]; exact hi)
theorem fromL_trans (s : St) {i m j : Nat} (hi : i < 6) (hm : m < 6) (h : (row (fromL s) i).testBit m = true) (hj : (row (fromL s) m).testBit j = true) : (row (fromL s) i).testBit j = true :=
  (closed_inv (rowsOf (s.sets 0))).trans i m (by rw [length_rowsOf]; exact hi) (by rw [length_rowsOf]; exact hm) (by rw [length_rowsOf]; exact hm) h j hj
/-- Whatever relation holds of each setting, of each with itself, and goes on, holds of all that flows. -/
theorem fromL_least (hs : s.ok) (R : Nat → Nat → Bool) (h0 : ∀ i, i < 6 → R i i = true) (h1 : ∀ p ∈ s.sets 0, ∀ j, p.2.testBit j = true → R p.1 j = true) (h2 : ∀ i j k, i < 6 → j < 6 → k < 6 → R i j = true → R j k = true → R i k = true)
    {i j : Nat} (hi : i < 6) (h : (row (fromL s) i).testBit j = true) : R i j = true := by
  have hl := length_rowsOf (s.sets 0)
  have hp := fun q hq => sets_lt hs (by decide) (u := 0) q hq
  have := (closed_inv (rowsOf (s.sets 0))).least (relN R 6) (fun i hi => by
    rw [hl] at hi
    refine ⟨by rw [testBit_relN R 6 i i hi, h0 i hi]; simp [hi], fun j hj => ?_, fun j hj hij k hk => ?_⟩
    · obtain ⟨q, hq, rfl, hb⟩ := (rowsOf_bit fun q hq => (hp q hq).1).1 hj
      have hj6 := bit_below (n := 6) (hp q hq).2 hb
      rw [testBit_relN R 6 _ j hi, h1 q hq j hb]
      simp [hj6]
    · rw [hl] at hj
      rw [testBit_relN R 6 i j hi] at hij
      rw [testBit_relN R 6 j k hj] at hk
      simp only [Bool.and_eq_true, decide_eq_true_eq] at hij hk
      rw [testBit_relN R 6 i k hi, h2 i j k hi hj hk.1 hij.2 hk.2]
      simp [hk.1]) i (by rw [hl]; exact hi) j h
  rw [testBit_relN R 6 i j hi] at this
  simp only [Bool.and_eq_true, decide_eq_true_eq] at this
  exact this.2
/-- Levels fit just if nothing flows down. -/
theorem fitB_iff (hs : s.ok) (h0 : ∀ i, i < 6 → 0 ≤ gI L i) : fitB L (s.sets 0) = true ↔ ∀ i j, i < 6 → j < 6 → (row (fromL s) i).testBit j = true → gI L j ≤ gI L i := by
  have hp := fun q hq => sets_lt hs (by decide) (u := 0) q hq
  unfold fitB
  rw [List.all_eq_true]
  constructor
  · intro h i j hi hj hij
    have := fromL_least hs (fun i j => decide (gI L j ≤ gI L i)) (fun i _ => by simp) (fun p hpp j hb => by
      have h1 := of_decide_eq_true (h p hpp)
      rw [hiI_le] at h1
      exact decide_eq_true (h1.2 j ((mem_bitsOf (by have := (hp p hpp).2; omega)).2 hb))) (fun i j k _ _ _ h1 h2 => by
      have h1 := of_decide_eq_true h1
      have h2 := of_decide_eq_true h2
      exact decide_eq_true (by omega)) hi hij
    exact of_decide_eq_true this
  · intro h p hpp
    have hp6 := hp p hpp
    refine decide_eq_true (hiI_le.2 ⟨h0 _ hp6.1, fun j hj => ?_⟩)
    have hb := (mem_bitsOf (by omega)).1 hj
    exact h p.1 j hp6.1 (bit_below (n := 6) hp6.2 hb) (fromL_more hs hpp hb)
end

/-- Of one variable: is none of those before j that flow into it above it? -/
def rowFine (L : List Int) (r : List Nat) (i j : Nat) : Bool := (List.range j).all fun b => !(row r i).testBit b || decide (gI L b ≤ gI L i)
def fineTo (L : List Int) (r : List Nat) (i : Nat) : Bool := (List.range i).all fun a => rowFine L r a 6
theorem rowFine_succ (L : List Int) (r : List Nat) (i j : Nat) : rowFine L r i (j + 1) = (rowFine L r i j && (!(row r i).testBit j || decide (gI L j ≤ gI L i))) := by unfold rowFine; rw [List.range_succ, List.all_append]; simp
theorem fineTo_succ (L : List Int) (r : List Nat) (i : Nat) : fineTo L r (i + 1) = (fineTo L r i && rowFine L r i 6) := by unfold fineTo; rw [List.range_succ, List.all_append]; simp
theorem fineTo_fits {s : St} {L : List Int} (hs : s.ok) (h0 : ∀ i, i < 6 → 0 ≤ gI L i) : fitB L (s.sets 0) = fineTo L (fromL s) 6 := by
  rw [Bool.eq_iff_iff, fitB_iff hs h0]
  unfold fineTo rowFine
  simp only [List.all_eq_true, List.mem_range, Bool.or_eq_true, Bool.not_eq_true', decide_eq_true_eq]
  constructor
  · intro h a ha b hb
    cases hab : (row (fromL s) a).testBit b with
    | false => exact .inl rfl
    | true => exact .inr (h a b ha hb hab)
  · intro h i j hi hj hij
    rcases h i hi j hj with h1 | h1
    · rw [hij] at h1; cases h1
    · exact h1
end Go.Proofs.YtdgncngkalgknaaDoor

namespace Go.Proofs.YtdgncngkalgknaaDoor
open Go.RowKit Go.Shelf
set_option maxRecDepth 100000
set_option linter.unusedVariables false

/-- One setting, in a pass. -/
def leastStep (M : List Int) (o : List Int × Bool) (p : Nat × Nat) : List Int × Bool :=
  if gI o.1 p.1 < hiI o.1 (bitsOf p.2) ∧ gI M p.1 < 0 then (o.1.set p.1 (hiI o.1 (bitsOf p.2)), true) else o
def leastPass (M : List Int) (l : List (Nat × Nat)) (o : List Int × Bool) : List Int × Bool := l.foldl (leastStep M) o
theorem leastPass_snoc (M : List Int) (l : List (Nat × Nat)) (o : List Int × Bool) (p : Nat × Nat) : leastPass M (l ++ [p]) o = leastStep M (leastPass M l o) p := by unfold leastPass; rw [List.foldl_append]; rfl
theorem leastStep_len (M : List Int) (o : List Int × Bool) (p : Nat × Nat) : (leastStep M o p).1.length = o.1.length := by
  unfold leastStep; split
  · rw [List.length_set]
  · rfl
theorem leastPass_len (M : List Int) (l : List (Nat × Nat)) (o : List Int × Bool) : (leastPass M l o).1.length = o.1.length := by
  induction l generalizing o with
  | nil => rfl
  | cons p l ih => show (leastPass M l (leastStep M o p)).1.length = _; rw [ih, leastStep_len]

section
variable {w0 V : World} {ob lb ab b off c co g x f : Nat} {M O : List Int} {ag : Bool}
set_option maxHeartbeats 2000000 in
theorem Least1_any (ho : BoxN V ob 22 #[.slice (some ⟨g, 0, none⟩) 6 co]) (hg : OwnAt V g 3 (O.map (Value.int .i64))) (hl : BoxN V lb 22 #[.slice (some ⟨b, off, none⟩) 6 c]) (ha : BoxN V ab 4 #[.bool ag]) (hne : b < w0.heap.size) (hgw : w0.heap.size ≤ g) (haw : w0.heap.size ≤ ab) (hlow : Below w0.heap.size w0 V)
    (hM : IntsAt w0 (some ⟨b, off, none⟩) M) (h6 : M.length = 6) (o6 : O.length = 6) (hT : Tab w0) (hx6 : x < 6) (hf : f < 64) {r : List Int × Bool} (hr : leastStep M (O, ag) (x, f) = r) :
    Calls Tryd.prog 42 #[.int .i64 (x : Nat), .int .i64 (f : Nat), .pointer (some ⟨ob, 0, none⟩), .pointer (some ⟨lb, 0, none⟩), .pointer (some ⟨ab, 0, none⟩)] V fun e w' => e = .returned (.tuple #[]) ∧ OwnAt w' g 3 (r.1.map (Value.int .i64)) ∧ BoxN w' ab 4 #[.bool r.2] ∧
      (∀ q t vs, BoxN V q t vs → q ≠ ab → t ≠ 3 → BoxN w' q t vs) ∧ Below w0.heap.size w0 w' ∧ V.heap.size ≤ w'.heap.size ∧ ∀ q, q ≠ g → q ≠ ab → q < V.heap.size → w'.heap[q]? = V.heap[q]? := by
  have HH := Lib.hid (highest_any (c := co) o6 hg.ints (hT.next hlow) hf)
  obtain ⟨b', off', hA, hcl⟩ := hM (by intro e; rw [e] at h6; cases h6)
  injection hA with hA
  injection hA with hA1 hA2
  subst hA1; subst hA2
  have c1 : w0.cell? ⟨b, off + x, none⟩ = some (.int .i64 (gI M x)) := hcl x _ (get_gI (by omega))
  have c2 := (hlow.cell (p := ⟨b, off + x, none⟩) hne).trans c1
  have q1 : V.cell? ⟨ob, 0, none⟩ = some (.slice (some ⟨g, 0, none⟩) 6 co) := ho.cell rfl
  have hxi : (x : Int) < 6 := by omega
  have hbV : b < V.heap.size := Nat.lt_of_lt_of_le hne hlow.size
  have hgab : g ≠ ab := hg.ne_box ha (by decide)
  have Hset : ∀ z : Int, (O.map (Value.int .i64)).set x (.int .i64 z) = (O.set x z).map (Value.int .i64) := fun z => by rw [List.map_set]
  have Hset := Lib.hid Hset
  have Hr := Lib.hid hr
  have Hrs := Lib.hid (show leastStep M (O, ag) (x, f) = if gI O x < hiI O (bitsOf f) ∧ gI M x < 0 then (O.set x (hiI O (bitsOf f)), true) else (O, ag) from rfl)
  have Hg := Lib.hid hg
  have Ha := Lib.hid ha
  have Ho := Lib.hid ho
  have Hl := Lib.hid hl
  have Hlow := Lib.hid hlow
  clear hcl c1 hr hM hT
  generalize hiI O (bitsOf f) = h at *
  go_enter Tryd.func42, Tryd.ntmps42
  go_wp2_with fail
  refine HH.out.mono ?_
  rintro e w1 ⟨rfl, hb1⟩
  have hbw := Hlow.out.trans (hb1.mono Hlow.out.size)
  have hg1 := Hg.out.all hb1
  have ha1 := Ha.out.all hb1
  have s1 : w1.cell? ⟨ob, 0, none⟩ = some (.slice (some ⟨g, 0, none⟩) 6 co) := (Ho.out.all hb1).cell rfl
  have s2 : w1.cell? ⟨lb, 0, none⟩ = some (.slice (some ⟨b, off, none⟩) 6 c) := (Hl.out.all hb1).cell rfl
  have s3 : w1.cell? ⟨b, off + x, none⟩ = some (.int .i64 (gI M x)) := (hb1.cell (p := ⟨b, off + x, none⟩) hbV).trans c2
  have s4 : w1.cell? ⟨g, x, none⟩ = some (.int .i64 (gI O x)) := hg1.cell (by rw [List.getElem?_map, get_gI (by omega)]; rfl)
  have s5 := hg1.free x
  have s6 : w1.cell? ⟨ab, 0, none⟩ = some (.bool ag) := ha1.cell rfl
  have s7 := ha1.free 0
  have Hg1 := Lib.hid hg1
  have Ha1 := Lib.hid ha1
  have hset2 : (w1.setCell ⟨g, x, none⟩ (.int .i64 h)).cell? ⟨ab, 0, none⟩ = some (.bool ag) := (ha1.other (a := ⟨g, x, none⟩) hgab.symm _).cell rfl
  have hfr2 := (ha1.other (a := ⟨g, x, none⟩) hgab.symm (.int .i64 h)).free 0
  clear HH c2 q1 hg ha ho hl hlow hg1 ha1
  generalize gI O x = ox at *
  generalize gI M x = mx at *
  have fin : ∀ (z : Int) (w2 : World), w2 = (w1.setCell ⟨g, x, none⟩ (.int .i64 h)).setCell ⟨ab, 0, none⟩ (.bool true) → r = (O.set x h, true) → 
      OwnAt w2 g 3 (r.1.map (Value.int .i64)) ∧ BoxN w2 ab 4 #[.bool r.2] ∧ (∀ q t vs, BoxN V q t vs → q ≠ ab → t ≠ 3 → BoxN w2 q t vs) ∧ Below w0.heap.size w0 w2 ∧ V.heap.size ≤ w2.heap.size ∧ ∀ q, q ≠ g → q ≠ ab → q < V.heap.size → w2.heap[q]? = V.heap[q]? := fun z w2 hw hr => by
    subst hw; subst hr
    refine ⟨?_, ?_, ?_, ?_, ?_, ?_⟩
    · refine OwnAt.far ?_ hgab _
      rw [← Hset.out]
      exact Hg1.out.set (by simp; omega) _
    · exact (Ha1.out.other (a := ⟨g, x, none⟩) hgab.symm _).set 0 (.bool true)
    · intro q t vs hq hqa ht
      have hqg : q ≠ g := (Hg.out.ne_box hq (fun e => ht e.symm)).symm
      exact ((hq.all hb1).other (a := ⟨g, x, none⟩) hqg _).other (a := ⟨ab, 0, none⟩) hqa _
    · exact (hbw.setCell (p := ⟨g, x, none⟩) hgw _).setCell (p := ⟨ab, 0, none⟩) haw _
    · simp; exact hb1.size
    · intro q h1 h2 h3
      rw [Below.heap_setCell _ ⟨ab, 0, none⟩ _ q h2, Below.heap_setCell _ ⟨g, x, none⟩ _ q h1]
      exact hb1.block q h3
  have fin0 : r = (O, ag) → OwnAt w1 g 3 (r.1.map (Value.int .i64)) ∧ BoxN w1 ab 4 #[.bool r.2] ∧ (∀ q t vs, BoxN V q t vs → q ≠ ab → t ≠ 3 → BoxN w1 q t vs) ∧ Below w0.heap.size w0 w1 ∧ V.heap.size ≤ w1.heap.size ∧ ∀ q, q ≠ g → q ≠ ab → q < V.heap.size → w1.heap[q]? = V.heap[q]? := fun hr => by
    subst hr
    exact ⟨Hg1.out, Ha1.out, fun q t vs hq _ _ => hq.all hb1, hbw, hb1.size, fun q _ _ h3 => hb1.block q h3⟩
  have Fin := Lib.hid fin
  have Fin0 := Lib.hid fin0
  clear fin fin0
  by_cases h1 : ox < h
  · have d1 : decide (h > ox) = true := decide_eq_true h1
    by_cases h2 : mx < 0
    · have d2 : decide (mx < 0) = true := decide_eq_true h2
      have Hrr := Lib.hid (show r = (O.set x h, true) by rw [← Hr.out, Hrs.out, if_pos ⟨h1, h2⟩])
      clear h1 h2
      go_wp2_with fail
      go_end0
      exact ⟨rfl, Fin.out 0 _ rfl Hrr.out⟩
    · have d2 : decide (mx < 0) = false := decide_eq_false h2
      have Hrr := Lib.hid (show r = (O, ag) by rw [← Hr.out, Hrs.out, if_neg (fun e => h2 e.2)])
      clear h1 h2
      go_wp2_with fail
      go_end0
      exact ⟨rfl, Fin0.out Hrr.out⟩
  · have d1 : decide (h > ox) = false := decide_eq_false h1
    have Hrr := Lib.hid (show r = (O, ag) by rw [← Hr.out, Hrs.out, if_neg (fun e => h1 e.1)])
    clear h1
    go_wp2_with fail
    go_end0
    exact ⟨rfl, Fin0.out Hrr.out⟩
end
end Go.Proofs.YtdgncngkalgknaaDoor

namespace Go.Proofs.YtdgncngkalgknaaDoor
set_option linter.unusedVariables false

/-- How far from the top some levels are. -/
def pot (O : List Int) : Nat := (O.map fun x => (7 - x).toNat).sum
theorem pot_set : ∀ (O : List Int) (i : Nat) (x : Int), i < O.length → gI O i < x → x ≤ 7 → pot (O.set i x) < pot O
  | [], i, x, h, _, _ => by simp at h
  | y :: O, 0, x, h, h1, h2 => by
    have h1 : y < x := h1
    simp only [pot, List.set_cons_zero, List.map_cons, List.sum_cons]
    omega
  | y :: O, i + 1, x, h, h1, h2 => by
    have h1 : gI O i < x := h1
    have := pot_set O i x (by simpa using h) h1 h2
    simp only [pot, List.set_cons_succ, List.map_cons, List.sum_cons] at this ⊢
    omega
/-- Told levels stay; all lie within their bounds; no levels that fit are lower. -/
structure LeastInv (M : List Int) (S : List (Nat × Nat)) (O : List Int) : Prop where
  len : O.length = 6
  bd : ∀ i, i < 6 → 0 ≤ gI O i ∧ gI O i ≤ 7
  told : ∀ i, i < 6 → 0 ≤ gI M i → gI O i = gI M i
  least : ∀ L : List Int, (∀ i, i < 6 → 0 ≤ gI L i) → fitB L S = true → (∀ i, i < 6 → 0 ≤ gI M i → gI L i = gI M i) → ∀ i, i < 6 → gI O i ≤ gI L i
/-- Nothing more rises. -/
def Stable (M : List Int) (S : List (Nat × Nat)) (O : List Int) : Prop := ∀ p ∈ S, hiI O (bitsOf p.2) ≤ gI O p.1 ∨ 0 ≤ gI M p.1
section
variable {M O : List Int} {S : List (Nat × Nat)}
theorem hiI_mono {L O : List Int} {l : List Nat} (h : ∀ i ∈ l, gI O i ≤ gI L i) (hL : ∀ i ∈ l, 0 ≤ gI L i) : hiI O l ≤ hiI L l :=
  hiI_le.2 ⟨(hiI_le.1 (Int.le_refl (hiI L l))).1, fun i hi => Int.le_trans (h i hi) ((hiI_le.1 (Int.le_refl (hiI L l))).2 i hi)⟩
theorem LeastInv.step (hS : ∀ p ∈ S, p.1 < 6 ∧ p.2 < 64) (h : LeastInv M S O) {p : Nat × Nat} (hp : p ∈ S) (b : Bool) : LeastInv M S (leastStep M (O, b) p).1 ∧ ((leastStep M (O, b) p) = (O, b) ∧ (hiI O (bitsOf p.2) ≤ gI O p.1 ∨ 0 ≤ gI M p.1) ∨ (leastStep M (O, b) p).2 = true ∧ pot (leastStep M (O, b) p).1 < pot O) := by
  have hp6 := hS p hp
  have hbits : ∀ i ∈ bitsOf p.2, i < 6 := fun i hi => bit_below (n := 6) hp6.2 ((mem_bitsOf (by omega)).1 hi)
  unfold leastStep
  split
  · rename_i hc
    obtain ⟨h1, h2⟩ := hc
    have h1 : gI O p.1 < hiI O (bitsOf p.2) := h1
    have h7 : hiI O (bitsOf p.2) ≤ 7 := hiI_le.2 ⟨by decide, fun i hi => (h.bd i (hbits i hi)).2⟩
    have h0 := (h.bd p.1 hp6.1).1
    have hg : ∀ j, gI (O.set p.1 (hiI O (bitsOf p.2))) j = if p.1 = j then hiI O (bitsOf p.2) else gI O j := fun j => gI_set (by rw [h.len]; exact hp6.1)
    refine ⟨⟨by simp [h.len], fun i hi => ?_, fun i hi hm => ?_, fun L hL hf ht i hi => ?_⟩, .inr ⟨rfl, pot_set _ _ _ (by rw [h.len]; exact hp6.1) h1 h7⟩⟩
    · rw [hg]; split
      · omega
      · exact h.bd i hi
    · rw [hg]; split
      · rename_i e; subst e; omega
      · exact h.told i hi hm
    · rw [hg]; split
      · rename_i e
        subst e
        have hf' := hf
        unfold fitB at hf'
        rw [List.all_eq_true] at hf'
        have := of_decide_eq_true (hf' p hp)
        exact Int.le_trans (hiI_mono (fun i hi => h.least L hL hf ht i (hbits i hi)) (fun i hi => hL i (hbits i hi))) this
      · exact h.least L hL hf ht i hi
  · rename_i hc
    refine ⟨h, .inl ⟨rfl, ?_⟩⟩
    by_cases hm : 0 ≤ gI M p.1
    · exact .inr hm
    · exact .inl (Int.not_lt.1 fun e => hc ⟨e, by omega⟩)
theorem LeastInv.pass (hS : ∀ p ∈ S, p.1 < 6 ∧ p.2 < 64) : ∀ (l : List (Nat × Nat)) (O : List Int) (b : Bool), (∀ p ∈ l, p ∈ S) → LeastInv M S O →
    LeastInv M S (leastPass M l (O, b)).1 ∧ (leastPass M l (O, b) = (O, b) ∧ (∀ p ∈ l, hiI O (bitsOf p.2) ≤ gI O p.1 ∨ 0 ≤ gI M p.1) ∨ (leastPass M l (O, b)).2 = true ∧ pot (leastPass M l (O, b)).1 < pot O)
  | [], O, b, _, h => ⟨h, .inl ⟨rfl, fun p hp => by cases hp⟩⟩
  | p :: l, O, b, hl, h => by
    have h1 := h.step hS (hl p (List.mem_cons_self ..)) b
    show LeastInv M S (leastPass M l (leastStep M (O, b) p)).1 ∧ (leastPass M l (leastStep M (O, b) p) = (O, b) ∧ _ ∨ (leastPass M l (leastStep M (O, b) p)).2 = true ∧ pot (leastPass M l (leastStep M (O, b) p)).1 < pot O)
    obtain ⟨O1, b1, hq⟩ : ∃ O1 b1, leastStep M (O, b) p = (O1, b1) := ⟨_, _, rfl⟩
    rw [hq] at h1 ⊢
    have h2 := LeastInv.pass hS l O1 b1 (fun q hq => hl q (List.mem_cons_of_mem _ hq)) h1.1
    refine ⟨h2.1, ?_⟩
    rcases h1.2 with ⟨e1, hs1⟩ | ⟨e1, hp1⟩
    · injection e1 with e1 e2
      subst e1; subst e2
      rcases h2.2 with ⟨e3, hs2⟩ | h3
      · exact .inl ⟨e3, fun q hq => by
          rcases List.mem_cons.1 hq with hq | hq
          · subst hq; exact hs1
          · exact hs2 q hq⟩
      · exact .inr h3
    · have e1 : b1 = true := e1
      subst e1
      rcases h2.2 with ⟨e3, hs2⟩ | h3
      · rw [e3]; exact .inr ⟨rfl, hp1⟩
      · exact .inr ⟨h3.1, Nat.lt_trans h3.2 hp1⟩
theorem LeastInv.round (hS : ∀ p ∈ S, p.1 < 6 ∧ p.2 < 64) (h : LeastInv M S O) {O' : List Int} {b' : Bool} (hr : leastPass M S (O, false) = (O', b')) : LeastInv M S O' ∧ (b' = false → Stable M S O') ∧ 2 * pot O' + b'.toNat < 2 * pot O + 1 := by
  have := LeastInv.pass hS S O false (fun _ h => h) h
  rw [hr] at this
  refine ⟨this.1, ?_, ?_⟩
  · rintro rfl
    rcases this.2 with ⟨e, hs⟩ | ⟨e, _⟩
    · injection e with e _
      subst e
      exact hs
    · cases e
  · rcases this.2 with ⟨e, hs⟩ | ⟨e, hp⟩
    · injection e with e e2
      subst e; subst e2
      simp
    · have e : b' = true := e
      subst e
      have hp : pot O' < pot O := hp
      simp; omega
/-- Where it begins. -/
theorem LeastInv.start (hM : ∀ i, i < 6 → -1 ≤ gI M i ∧ gI M i ≤ 7) (h6 : O.length = 6) (hO : ∀ i, i < 6 → gI O i = max (gI M i) 0) : LeastInv M S O where
  len := h6
  bd i hi := by rw [hO i hi]; have := hM i hi; omega
  told i hi h := by rw [hO i hi]; omega
  least L hL _ ht i hi := by
    rw [hO i hi]
    have h1 := hL i hi
    by_cases h : 0 ≤ gI M i
    · have := ht i hi h; omega
    · omega
/-- Where there are levels that fit, the least do. -/
theorem LeastInv.fits (hS : ∀ p ∈ S, p.1 < 6 ∧ p.2 < 64) (h : LeastInv M S O) (hs : Stable M S O) {L : List Int} (hL : ∀ i, i < 6 → 0 ≤ gI L i) (hf : fitB L S = true) (ht : ∀ i, i < 6 → 0 ≤ gI M i → gI L i = gI M i) : fitB O S = true := by
  have hf' := hf
  unfold fitB at hf' ⊢
  rw [List.all_eq_true] at hf' ⊢
  intro p hp
  have hp6 := hS p hp
  have hbits : ∀ i ∈ bitsOf p.2, i < 6 := fun i hi => bit_below (n := 6) hp6.2 ((mem_bitsOf (by omega)).1 hi)
  refine decide_eq_true ?_
  rcases hs p hp with h1 | h1
  · exact h1
  · have h2 := of_decide_eq_true (hf' p hp)
    have h3 := hiI_mono (fun i hi => h.least L hL hf ht i (hbits i hi)) (fun i hi => hL i (hbits i hi))
    rw [ht p.1 hp6.1 h1, ← h.told p.1 hp6.1 h1] at h2
    omega
end
end Go.Proofs.YtdgncngkalgknaaDoor

namespace Go.Proofs.YtdgncngkalgknaaDoor
open Go.RowKit Go.Shelf
set_option maxRecDepth 100000
set_option linter.unusedVariables false

/-- What Least's closure has made of settings. -/
structure LeastMem (w0 : World) (E ob lb ab b off c co g : Nat) (M O0 : List Int) (l : List (Nat × Nat)) (V : World) : Prop where
  low : Below w0.heap.size w0 V
  up : E ≤ V.heap.size
  out : BoxN V ob 22 #[.slice (some ⟨g, 0, none⟩) 6 co]
  lev : BoxN V lb 22 #[.slice (some ⟨b, off, none⟩) 6 c]
  row : OwnAt V g 3 ((leastPass M l (O0, false)).1.map (Value.int .i64))
  again : BoxN V ab 4 #[.bool (leastPass M l (O0, false)).2]
theorem least_sees {w0 : World} {E ob lb ab b off c co g : Nat} {M O0 : List Int} (hgw : w0.heap.size ≤ g) (hgE : g < E) (haw : w0.heap.size ≤ ab) (haE : ab < E) (hob : ob ≠ ab) (hlb : lb ≠ ab) (hb : b < w0.heap.size) (hM : IntsAt w0 (some ⟨b, off, none⟩) M) (h6 : M.length = 6) (o6 : O0.length = 6) (hT : Tab w0) :
    Sees w0 E 42 #[.pointer (some ⟨ob, 0, none⟩), .pointer (some ⟨lb, 0, none⟩), .pointer (some ⟨ab, 0, none⟩)] (LeastMem w0 E ob lb ab b off c co g M O0) where
  enters := enters_of Tryd.func42 (by kernel_rfl) rfl
  low _ _ h := h.low
  up _ _ h := h.up
  keep _ _ _ h hb := ⟨h.low.trans (hb.mono h.low.size), Nat.le_trans h.up hb.size, h.out.all hb, h.lev.all hb, h.row.all hb, h.again.all hb⟩
  call l x f V h hx hf := (Least1_any h.out h.row h.lev h.again hb hgw haw h.low hM h6 (by rw [leastPass_len]; exact o6) hT hx hf (r := leastPass M (l ++ [(x, f)]) (O0, false)) (leastPass_snoc M l (O0, false) (x, f)).symm).mono fun e w' ⟨he, h1, h2, h3, h4, h5, h7⟩ =>
    ⟨he, ⟨h4, Nat.le_trans h.up h5, h3 _ _ _ h.out hob (by decide), h3 _ _ _ h.lev hlb (by decide), h1, h2⟩, ⟨h5, fun q hq hl => h7 q (by omega) (by omega) hl⟩⟩

def leastCode (P : List Int) (n : Nat) (M : List Int) : Nat := if progCode P n = 0 then levCode M (-1) else progCode P n
theorem leastCode_ok {P : List Int} {n : Nat} {M : List Int} (h : leastCode P n M = 0) : progCode P n = 0 ∧ M.length = 6 ∧ ∀ i, i < 6 → -1 ≤ gI M i ∧ gI M i ≤ 7 := by
  unfold leastCode at h
  split at h
  · rename_i hc
    unfold levCode at h
    split at h
    · rename_i h6
      split at h
      · rename_i ha
        refine ⟨hc, h6, fun i hi => ?_⟩
        rw [List.all_eq_true] at ha
        exact of_decide_eq_true (ha _ (List.mem_of_getElem? (get_gI (by omega))))
      · cases h
    · cases h
  · rename_i hc; exact absurd h hc
set_option maxHeartbeats 2000000 in
theorem Least_bad {P : List Int} {n : Nat} {A : Option Addr} {c : Nat} {w : World} {M : List Int} {Al : Option Addr} {cl : Nat} {k : Nat} (h : NodesAt w A P n) (hL : IntsAt w Al M) (hk : leastCode P n M = k) (hne : k ≠ 0) :
    Calls Tryd.prog 16 #[.slice A n c, .slice Al M.length cl] w fun e w' => e = .returned (.tuple #[.slice none 0 0, .iface 61 (.int .i64 k)]) ∧ Below w.heap.size w w' := by
  have hb0 : Below w.heap.size w (w.alloc (.cells #[.slice Al M.length cl] 22)) := (Below.refl _ _).alloc (Nat.le_refl _) _
  have HC := PCheck_any (c := c) (h.below (B := 0) hb0)
  have hx := BoxN.new w 22 #[.slice Al M.length cl]
  by_cases hc : progCode P n = 0
  · have hl : levCode M (-1) = k := by rw [← hk]; unfold leastCode; rw [if_pos hc]
    rw [hc, errVal_zero] at HC
    have HC := Lib.hid HC
    have HL := Lib.hid (fun V (hV : Below w.heap.size w V) => levels_any M (-1) Al cl V (hL.below hV))
    rw [hl, errVal_pos hne] at HL
    clear hk hc hl hne h hL
    generalize M.length = m at *
    go_enter Tryd.func16, Tryd.ntmps16
    go_wp2_with fail
    refine HC.out.mono ?_
    rintro e w1 ⟨rfl, hb1⟩
    have e1 : w1.cell? ⟨w.heap.size, 0, none⟩ = some (.slice Al m cl) := (hx.all hb1).cell rfl
    have hbw := hb0.trans (hb1.mono hb0.size)
    clear HC
    go_wp2_with (go_at_call 40; with_reducible refine (HL.out _ hbw).mono ?_; rintro e w2 ⟨rfl, rfl⟩)
    go_ret2
    exact ⟨rfl, hbw⟩
  · have hl : progCode P n = k := by rw [← hk]; unfold leastCode; rw [if_neg hc]
    rw [hl, errVal_pos hne] at HC
    have HC := Lib.hid HC
    clear hk hc hl hne h hL
    generalize M.length = m at *
    go_enter Tryd.func16, Tryd.ntmps16
    go_wp2_with fail
    refine HC.out.mono ?_
    rintro e w1 ⟨rfl, hb1⟩
    have hbw := hb0.trans (hb1.mono hb0.size)
    go_wp2_with fail
    go_ret2
    exact ⟨rfl, hbw⟩

/-- What Least tells. -/
def LeastPost (w : World) (M : List Int) (S : List (Nat × Nat)) (e : Ending) (w' : World) : Prop :=
  (∃ O, LeastInv M S O ∧ Stable M S O ∧ ((fitB O S = true ∧ ∃ B c', e = .returned (.tuple #[.slice B 6 c', .nilIface]) ∧ IntsAt w' B O) ∨
    (fitB O S = false ∧ e = .returned (.tuple #[.slice none 0 0, .iface 61 (.int .i64 6)])))) ∧ Below w.heap.size w w'
set_option maxHeartbeats 4000000 in
theorem Least_ok {P : List Int} {n : Nat} {A : Option Addr} {c : Nat} {w : World} {M : List Int} {Al : Option Addr} {cl : Nat} {s : St} (h : NodesAt w A P n) (hL : IntsAt w Al M) (hk : leastCode P n M = 0) (hs : IsSt P (n - 1) s) (hT : Tab w) :
    Calls Tryd.prog 16 #[.slice A n c, .slice Al M.length cl] w (LeastPost w M (s.sets 0)) := by
  obtain ⟨hc, h6, hbM⟩ := leastCode_ok hk
  have hl : levCode M (-1) = 0 := by unfold leastCode at hk; rwa [if_pos hc] at hk
  obtain ⟨⟨hn1, hn80⟩, -, -⟩ := progCode_tree hc
  have hS : ∀ p ∈ s.sets 0, p.1 < 6 ∧ p.2 < 64 := fun p hp => sets_lt hs.ok (by decide) p hp
  obtain ⟨b, off, rfl, hcl⟩ := (show _ from hL) (by intro e; rw [e] at h6; cases h6)
  have hbw : b < w.heap.size := block_lt (hcl 0 _ (get_gI (by omega)))
  have hb0 : Below w.heap.size w (w.alloc (.cells #[.slice (some ⟨b, off, none⟩) 6 cl] 22)) := (Below.refl _ _).alloc (Nat.le_refl _) _
  have HC := PCheck_any (c := c) (h.below (B := 0) hb0)
  have hx := BoxN.new w 22 #[.slice (some ⟨b, off, none⟩) 6 cl]
  rw [hc, errVal_zero] at HC
  have HC := Lib.hid HC
  have HL := Lib.hid (fun V (hV : Below w.heap.size w V) => levels_any M (-1) (some ⟨b, off, none⟩) cl V (hL.below hV))
  rw [hl, errVal_zero] at HL
  rw [h6] at HL
  have HCl := fun V (hV : Below w.heap.size w V) => Clone_some b off cl M V (hL.below hV) (by intro e; rw [e] at h6; cases h6) (by rw [h6]; decide)
  rw [h6] at HCl
  have HCl := Lib.hid HCl
  have hsub : (n : Int) - 1 = ((n - 1 : Nat) : Int) := by omega
  have h1n : (1 : Int) ≤ n := by omega
  rw [h6]
  clear hk hl hcl
  go_enter Tryd.func16, Tryd.ntmps16
  go_wp2_with fail
  refine HC.out.mono ?_
  rintro e w1 ⟨rfl, hb1⟩
  have hx1 := hx.all hb1
  have e1 : w1.cell? ⟨w.heap.size, 0, none⟩ = some (.slice (some ⟨b, off, none⟩) 6 cl) := hx1.cell rfl
  have hbw1 := hb0.trans (hb1.mono hb0.size)
  have hs1 : w.heap.size + 1 ≤ w1.heap.size := by have := hb1.size; simp at this; omega
  clear HC hb0 hb1 hx
  go_wp2_with (go_at_call 40; with_reducible refine (HL.out _ hbw1).mono ?_; rintro e w2 ⟨rfl, rfl⟩)
  refine (HCl.out _ hbw1).mono ?_
  rintro e w2 ⟨g, co, rfl, hg1, ho2, hb2⟩
  have hx2 := hx1.all hb2
  have hbw2 := hbw1.trans (hb2.mono hbw1.size)
  have hs2 := hb2.size
  have hglt := ho2.lt
  have ho3 := ho2.alloc (.cells #[.slice (some ⟨g, 0, none⟩) 6 co] 22)
  have hx3 := hx2.alloc (.cells #[.slice (some ⟨g, 0, none⟩) 6 co] 22)
  have hy3 := BoxN.new w2 22 #[.slice (some ⟨g, 0, none⟩) 6 co]
  have hbw3 := hbw2.alloc hbw2.size (.cells #[.slice (some ⟨g, 0, none⟩) 6 co] 22)
  have hs3 : (w2.alloc (.cells #[.slice (some ⟨g, 0, none⟩) 6 co] 22)).heap.size = w2.heap.size + 1 := by simp
  clear HCl HL e1 ho2 hx1 hx2 hb2
  go_wp2_with fail
  generalize (w2.alloc (.cells #[.slice (some ⟨g, 0, none⟩) 6 co] 22)) = w3 at *
  have hgw : w.heap.size ≤ g := Nat.le_trans hbw1.size hg1
  go_loopw [27] (fun i wr => ∃ (k : Nat) (O : List Int), k ≤ 6 ∧ i = .int .i64 k ∧ O.length = 6 ∧ Hid (∀ j, j < 6 → gI O j = if j < k then max (gI M j) 0 else gI M j) ∧ OwnAt wr g 3 (O.map (Value.int .i64)) ∧ BoxN wr w2.heap.size 22 #[.slice (some ⟨g, 0, none⟩) 6 co] ∧ BoxN wr w.heap.size 22 #[.slice (some ⟨b, off, none⟩) 6 cl] ∧ Below w.heap.size w wr ∧ wr.heap.size = w3.heap.size) (fun i _ => 6 - (intOf i).toNat)
  case atStart => exact ⟨0, M, Nat.zero_le _, rfl, h6, Lib.hid (fun j hj => by simp), ho3, hy3, hx3, hbw3, rfl⟩
  case round =>
    clear ho3 hy3 hx3 hbw3
    obtain ⟨k, O, hk, rfl, hO6, hO, ho, hy, hx, hbr, hsz⟩ := hrel
    by_cases hlt : k < 6
    · have c1 : wr.cell? ⟨w2.heap.size, 0, none⟩ = some (.slice (some ⟨g, 0, none⟩) 6 co) := hy.cell rfl
      have c2 : wr.cell? ⟨g, k, none⟩ = some (.int .i64 (gI O k)) := ho.cell (by rw [List.getElem?_map, get_gI (by omega)]; rfl)
      have c3 := ho.free k
      have hk6 : (k : Int) < 6 := by omega
      have Hset : ∀ z : Int, (O.map (Value.int .i64)).set k (.int .i64 z) = (O.set k z).map (Value.int .i64) := fun z => by rw [List.map_set]
      have Hset := Lib.hid Hset
      have Ho := Lib.hid ho
      have Hy := Lib.hid hy
      have Hx := Lib.hid hx
      have hgy : w2.heap.size ≠ g := (ho.ne_box hy (by decide)).symm
      have hgx : w.heap.size ≠ g := (ho.ne_box hx (by decide)).symm
      have Hnx := Lib.hid (fun (z : Int) (hz : z = max (gI O k) 0) => show ∀ j, j < 6 → gI (O.set k z) j = if j < k + 1 then max (gI M j) 0 else gI M j from fun j hj => by
        rw [gI_set (by omega)]
        by_cases e : k = j
        · subst e
          have := hO.out k hj
          rw [if_neg (by omega)] at this
          rw [if_pos rfl, if_pos (by omega), hz, this]
        · rw [if_neg e, hO.out j hj]
          by_cases h1 : j < k
          · rw [if_pos h1, if_pos (by omega)]
          · rw [if_neg h1, if_neg (by omega)])
      clear ho hy hx hO
      generalize gI O k = x at *
      rcases Int.lt_or_le x 0 with hx0 | hx0
      · have Hn := Lib.hid (Hnx.out 0 (by omega))
        clear Hnx
        go_wp2_with fail
        go_region
        go_wp2_with fail
        refine ⟨⟨k + 1, O.set k 0, ?ra, ?rb, ?rc, Hn, ?re, ?rf, ?rg, ?rh, ?ri⟩, ?rd⟩
        case ra => omega
        case rb => go_num
        case rc => simp [hO6]
        case re => rw [← Hset.out]; exact (Ho.out.set (by simp; omega) _).drew
        case rf => exact (Hy.out.other (a := ⟨g, k, none⟩) hgy _).drew
        case rg => exact (Hx.out.other (a := ⟨g, k, none⟩) hgx _).drew
        case rh => exact (hbr.setCell (p := ⟨g, k, none⟩) hgw _).drew
        case ri => simp; exact hsz
        case rd => simp [intOf]; omega
      · have Hn := Lib.hid (Hnx.out x (by omega))
        clear Hnx
        go_wp2_with fail
        go_region
        go_wp2_with fail
        refine ⟨⟨k + 1, O.set k x, ?ta, ?tb, ?tc, Hn, ?te, ?tf, ?tg, ?th, ?ti⟩, ?td⟩
        case ta => omega
        case tb => go_num
        case tc => simp [hO6]
        case te => rw [← Hset.out]; exact (Ho.out.set (by simp; omega) _).drew
        case tf => exact (Hy.out.other (a := ⟨g, k, none⟩) hgy _).drew
        case tg => exact (Hx.out.other (a := ⟨g, k, none⟩) hgx _).drew
        case th => exact (hbr.setCell (p := ⟨g, k, none⟩) hgw _).drew
        case ti => simp; exact hsz
        case td => simp [intOf]; omega
    · obtain rfl : k = 6 := by omega
      simp only [show ((6 : Nat) : Int) = 6 from rfl]
      have hinv0 : LeastInv M (s.sets 0) O := LeastInv.start hbM hO6 (fun i hi => by have := hO.out i hi; rw [if_pos hi] at this; exact this)
      obtain ⟨wo, rfl⟩ : ∃ wo : World, wo = wr := ⟨_, rfl⟩
      have hoA := ho.alloc (.cells #[.bool true] 4)
      have hyA := hy.alloc (.cells #[.bool true] 4)
      have hxA := hx.alloc (.cells #[.bool true] 4)
      have haA := BoxN.new wo 4 #[.bool true]
      have hbA := hbr.alloc hbr.size (.cells #[.bool true] 4)
      have hszA : (wo.alloc (.cells #[.bool true] 4)).heap.size = wo.heap.size + 1 := by simp
      clear ho hy hx hbr hO
      go_wp2_with fail
      generalize (wo.alloc (.cells #[.bool true] 4)) = wA at *
      have hgo : g < wo.heap.size := by omega
      go_loopg [10] (2 * pot O + 2) (fun m q wr => ∃ (ab : Nat) (O : List Int) (bg : Bool), q = .pointer (some ⟨ab, 0, none⟩) ∧ 2 * pot O + bg.toNat < m ∧ LeastInv M (s.sets 0) O ∧ Hid (bg = false → Stable M (s.sets 0) O) ∧ OwnAt wr g 3 (O.map (Value.int .i64)) ∧ BoxN wr w2.heap.size 22 #[.slice (some ⟨g, 0, none⟩) 6 co] ∧ BoxN wr w.heap.size 22 #[.slice (some ⟨b, off, none⟩) 6 cl] ∧ BoxN wr ab 4 #[.bool bg] ∧ Below w.heap.size w wr ∧ wo.heap.size ≤ ab)
      case atStart => exact ⟨wo.heap.size, O, true, by rw [show wo.heap.size = w2.heap.size + 1 by omega], by simp, hinv0, Lib.hid (fun e => by cases e), hoA, hyA, hxA, haA, hbA, Nat.le_refl _⟩
      case round =>
        clear hinv0 hoA hyA hxA haA hbA
        obtain ⟨ab, O, bg, rfl, hm, hinv, hst, ho, hy, hx, ha, hbr, hab⟩ := hrel
        have hal := ha.lt
        have c1 : wr.cell? ⟨ab, 0, none⟩ = some (.bool bg) := ha.cell rfl
        have c2 := ha.free 0
        cases bg with
        | true =>
          have hya := bool_ne_slice ha hy
          have hxa := bool_ne_slice ha hx
          have hga := ho.ne_box ha (by decide)
          have hm1 : 2 * pot O + 1 < gk := hm
          have h1 := (ho.far (a := ⟨ab, 0, none⟩) hga (.bool false))
          have h2 := (hy.other (a := ⟨ab, 0, none⟩) hya (.bool false))
          have h3 := (hx.other (a := ⟨ab, 0, none⟩) hxa (.bool false))
          have h4 := ha.set 0 (.bool false)
          have h5 : Below w.heap.size w (wr.setCell ⟨ab, 0, none⟩ (.bool false)) := hbr.setCell (p := ⟨ab, 0, none⟩) (by show w.heap.size ≤ ab; omega) _
          have hszW : (wr.setCell ⟨ab, 0, none⟩ (.bool false)).heap.size = wr.heap.size := by simp
          obtain ⟨O', b', hr⟩ : ∃ O' b', leastPass M (s.sets 0) (O, false) = (O', b') := ⟨_, _, rfl⟩
          have hrd := hinv.round hS hr
          clear ho hy hx ha hbr
          go_wp2_with fail
          generalize (wr.setCell ⟨ab, 0, none⟩ (.bool false)) = W at *
          have HE : Calls Tryd.prog 41 #[.slice A n c, .int .i64 ((n - 1 : Nat) : Int), .int .i64 0, .func (.func 42) #[] #[.pointer (some ⟨w2.heap.size, 0, none⟩), .pointer (some ⟨w.heap.size, 0, none⟩), .pointer (some ⟨ab, 0, none⟩)]] W fun e w' => e = .returned (.tuple #[]) ∧ LeastMem w W.heap.size w2.heap.size w.heap.size ab b off cl co g M O ([] ++ s.sets 0) w' ∧ KeepsUp W.heap.size W w' :=
            each_any (least_sees hgw (by omega) (by omega) (by omega) hya hxa hbw hL h6 hinv.len hT) h hs (by omega) 0 [] W (by decide) ⟨h5, Nat.le_refl _, h2, h3, h1, h4⟩
          clear c1 c2
          refine HE.mono ?_
          rintro e w5 ⟨rfl, hI, -⟩
          have hIr := hI.row
          have hIa := hI.again
          rw [List.nil_append, hr] at hIr hIa
          have c3 : w5.cell? ⟨ab, 0, none⟩ = some (.bool b') := hIa.cell rfl
          have hn1 := hIr.alloc (.cells #[.bool b'] 4)
          have hn2 := hI.out.alloc (.cells #[.bool b'] 4)
          have hn3 := hI.lev.alloc (.cells #[.bool b'] 4)
          have hn4 := BoxN.new w5 4 #[.bool b']
          have hn5 := hI.low.alloc hI.low.size (.cells #[.bool b'] 4)
          have hup := hI.up
          have Hst := Lib.hid hrd.2.1
          clear HE hI hIr hIa h1 h2 h3 h4 h5
          go_wp2_with fail
          go_roundg (2 * pot O + 1)
          case measure => exact hm1
          case rel => exact ⟨w5.heap.size, O', b', rfl, hrd.2.2, hrd.1, Hst, hn1, hn2, hn3, hn4, hn5, by omega⟩
        | false =>
          have hstab := hst.out rfl
          have hfc : fitsCode P n O = 0 := by
            unfold fitsCode
            rw [if_pos hc]
            unfold levCode
            rw [if_pos hinv.len, if_pos]
            rw [List.all_eq_true]
            intro x hx
            obtain ⟨j, hj, rfl⟩ := List.getElem_of_mem hx
            have := hinv.bd j (by rw [← hinv.len]; exact hj)
            have e : gI O j = O[j] := gI_of (List.getElem?_eq_getElem hj)
            rw [e] at this
            exact decide_eq_true this
          have CF := Lib.hid (fun (r : Bool) (hr : fitB O (s.sets 0) = r) => Fits_ok (c := c) (cl := co) (h.below (B := 0) hbr) ho.ints hfc hs (hT.next hbr) hr)
          rw [hinv.len] at CF
          have e2 : wr.cell? ⟨w2.heap.size, 0, none⟩ = some (.slice (some ⟨g, 0, none⟩) 6 co) := hy.cell rfl
          have Hinv := Lib.hid hinv
          have Hy := Lib.hid hy
          have Ho := Lib.hid ho
          clear hst hy hx ho ha hfc
          cases hr : fitB O (s.sets 0) with
          | true =>
            have CF1 := Lib.hid (CF.out true hr)
            go_wp2_with fail
            refine CF1.out.mono ?_
            rintro e w5 ⟨rfl, hb5⟩
            have e3 : w5.cell? ⟨w2.heap.size, 0, none⟩ = some (.slice (some ⟨g, 0, none⟩) 6 co) := (Hy.out.all hb5).cell rfl
            go_wp2_with fail
            go_ret2
            exact ⟨⟨O, Hinv.out, hstab, .inl ⟨hr, _, _, rfl, (Ho.out.all hb5).ints⟩⟩, hbr.trans (hb5.mono hbr.size)⟩
          | false =>
            have CF1 := Lib.hid (CF.out false hr)
            go_wp2_with fail
            refine CF1.out.mono ?_
            rintro e w5 ⟨rfl, hb5⟩
            go_wp2_with fail
            go_ret2
            exact ⟨⟨O, Hinv.out, hstab, .inr ⟨hr, rfl⟩⟩, hbr.trans (hb5.mono hbr.size)⟩
end Go.Proofs.YtdgncngkalgknaaDoor
