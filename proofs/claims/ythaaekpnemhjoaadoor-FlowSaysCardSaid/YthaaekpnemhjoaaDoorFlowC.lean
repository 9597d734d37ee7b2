/-
  Contract: flow.Fits.
-/
import Derived.Test.YthaaekpnemhjoaaDoorFlowB
namespace Go.Proofs.YthaaekpnemhjoaaDoor
open Go.RowKit Go.Shelf
set_option maxRecDepth 100000
set_option linter.unusedVariables false

/-- What Fits' closure has made of settings. -/
structure FitsInv (w0 : World) (E ob lb b off c : Nat) (L : List Int) (l : List (Nat × Nat)) (V : World) : Prop where
  low : Below w0.heap.size w0 V
  up : E ≤ V.heap.size
  ok : BoxN V ob 4 #[.bool (fitB L l)]
  lev : BoxN V lb 23 #[.slice (some ⟨b, off, none⟩) 6 c]
theorem bool_ne_slice {V : World} {ob lb : Nat} {v u : Value} (h : BoxN V ob 4 #[v]) (h' : BoxN V lb 23 #[u]) : lb ≠ ob := by
  rintro rfl
  have h1 : V.heap[lb]? = some (.cells #[v] 4 (0, 0)) := h
  have h2 : V.heap[lb]? = some (.cells #[u] 23 (0, 0)) := h'
  rw [h1] at h2
  injection h2 with h2
  injection h2 with _ h3
  exact absurd h3 (by decide)
theorem fits_sees {w0 : World} {E ob lb b off c : Nat} {L : List Int} (hob : w0.heap.size ≤ ob) (hoE : ob < E) (hb : b < w0.heap.size) (hL : IntsAt w0 (some ⟨b, off, none⟩) L) (h6 : L.length = 6) (hT : Tab w0) :
    Sees w0 E 30 #[.pointer (some ⟨ob, 0, none⟩), .pointer (some ⟨lb, 0, none⟩)] (FitsInv w0 E ob lb b off c L) where
  enters := enters_of Tryd.func30 (by kernel_rfl) rfl
  low _ _ h := h.low
  up _ _ h := h.up
  keep _ _ _ h hb := ⟨h.low.trans (hb.mono h.low.size), Nat.le_trans h.up hb.size, h.ok.all hb, h.lev.all hb⟩
  call l x f V h hx hf := (Fits1_any h.ok h.lev hb hob h.low hL h6 hT hx hf).mono fun e w' ⟨he, h1, h2, h3⟩ =>
    ⟨he, ⟨h3, Nat.le_trans h.up h2.size, by rw [fitB_snoc]; exact h1, h2.box h.lev (bool_ne_slice h.ok h.lev)⟩, ⟨h2.size, fun b hb hl => h2.block b (by omega) hl⟩⟩

def fitsCode (P : List Int) (n : Nat) (L : List Int) : Nat := if progCode P n = 0 then levCode L 0 else progCode P n
set_option maxHeartbeats 2000000 in
theorem Fits_bad {P : List Int} {n : Nat} {A : Option Addr} {c : Nat} {w : World} {L : List Int} {Al : Option Addr} {cl : Nat} {k : Nat} (h : NodesAt w A P n) (hL : IntsAt w Al L) (hk : fitsCode P n L = k) (hne : k ≠ 0) :
    Calls Tryd.prog 10 #[.slice A n c, .slice Al L.length cl] w fun e w' => e = .returned (.tuple #[.bool false, .iface 62 (.int .i64 k)]) ∧ Below w.heap.size w w' := by
  have hb0 : Below w.heap.size w (w.alloc (.cells #[.slice Al L.length cl] 23)) := (Below.refl _ _).alloc (Nat.le_refl _) _
  have HC := PCheck_any (c := c) (h.below (B := 0) hb0)
  have hx := BoxN.new w 23 #[.slice Al L.length cl]
  by_cases hc : progCode P n = 0
  · have hl : levCode L 0 = k := by rw [← hk]; unfold fitsCode; rw [if_pos hc]
    rw [hc, errVal_zero] at HC
    have HC := Lib.hid HC
    have HL := Lib.hid (fun V (hV : Below w.heap.size w V) => levels_any L 0 Al cl V (hL.below hV))
    rw [hl, errVal_pos hne] at HL
    clear hk hc hl hne h hL
    generalize L.length = m at *
    go_enter Tryd.func10, Tryd.ntmps10
    go_wp2_with fail
    refine HC.out.mono ?_
    rintro e w1 ⟨rfl, hb1⟩
    have e1 : w1.cell? ⟨w.heap.size, 0, none⟩ = some (.slice Al m cl) := (hx.all hb1).cell rfl
    have hbw := hb0.trans (hb1.mono hb0.size)
    clear HC
    go_wp2_with (go_at_call 28; with_reducible refine (HL.out _ hbw).mono ?_; rintro e w2 ⟨rfl, rfl⟩)
    go_ret2
    exact ⟨rfl, hbw⟩
  · have hl : progCode P n = k := by rw [← hk]; unfold fitsCode; rw [if_neg hc]
    rw [hl, errVal_pos hne] at HC
    have HC := Lib.hid HC
    clear hk hc hl hne h hL
    generalize L.length = m at *
    go_enter Tryd.func10, Tryd.ntmps10
    go_wp2_with fail
    refine HC.out.mono ?_
    rintro e w1 ⟨rfl, hb1⟩
    have hbw := hb0.trans (hb1.mono hb0.size)
    go_wp2_with fail
    go_ret2
    exact ⟨rfl, hbw⟩
theorem fitsCode_ok {P : List Int} {n : Nat} {L : List Int} (h : fitsCode P n L = 0) : progCode P n = 0 ∧ L.length = 6 ∧ ∀ x ∈ L, 0 ≤ x ∧ x ≤ 7 := by
  unfold fitsCode at h
  split at h
  · rename_i hc
    unfold levCode at h
    split at h
    · rename_i h6
      split at h
      · rename_i ha
        refine ⟨hc, h6, fun x hx => ?_⟩
        rw [List.all_eq_true] at ha
        exact of_decide_eq_true (ha x hx)
      · cases h
    · cases h
  · rename_i hc; exact absurd h hc
set_option maxHeartbeats 2000000 in
theorem Fits_ok {P : List Int} {n : Nat} {A : Option Addr} {c : Nat} {w : World} {L : List Int} {Al : Option Addr} {cl : Nat} {s : St} (h : NodesAt w A P n) (hL : IntsAt w Al L) (hk : fitsCode P n L = 0) (hs : IsSt P (n - 1) s) (hT : Tab w) {r : Bool} (hr : fitB L (s.sets 0) = r) :
    Calls Tryd.prog 10 #[.slice A n c, .slice Al L.length cl] w fun e w' => e = .returned (.tuple #[.bool r, .nilIface]) ∧ Below w.heap.size w w' := by
  obtain ⟨hc, h6, -⟩ := fitsCode_ok hk
  have hl : levCode L 0 = 0 := by unfold fitsCode at hk; rwa [if_pos hc] at hk
  obtain ⟨⟨hn1, hn80⟩, -, -⟩ := progCode_tree hc
  obtain ⟨b, off, rfl, hcl⟩ := hL (by intro e; rw [e] at h6; cases h6)
  have hbw : b < w.heap.size := block_lt (hcl 0 _ (get_gI (by omega)))
  have hb0 : Below w.heap.size w (w.alloc (.cells #[.slice (some ⟨b, off, none⟩) 6 cl] 23)) := (Below.refl _ _).alloc (Nat.le_refl _) _
  have HC := PCheck_any (c := c) (h.below (B := 0) hb0)
  have hx := BoxN.new w 23 #[.slice (some ⟨b, off, none⟩) 6 cl]
  rw [hc, errVal_zero] at HC
  have HC := Lib.hid HC
  have HL := Lib.hid (fun V (hV : Below w.heap.size w V) => levels_any L 0 (some ⟨b, off, none⟩) cl V (hL.below hV))
  rw [hl, errVal_zero] at HL
  rw [h6] at HL
  have hsub : (n : Int) - 1 = ((n - 1 : Nat) : Int) := by omega
  have h1n : (1 : Int) ≤ n := by omega
  have hn40 := h.small
  rw [h6]
  clear hk hc hl hcl
  go_enter Tryd.func10, Tryd.ntmps10
  go_wp2_with fail
  refine HC.out.mono ?_
  rintro e w1 ⟨rfl, hb1⟩
  have hx1 := hx.all hb1
  have e1 : w1.cell? ⟨w.heap.size, 0, none⟩ = some (.slice (some ⟨b, off, none⟩) 6 cl) := hx1.cell rfl
  have hbw1 := hb0.trans (hb1.mono hb0.size)
  have hs1 : w.heap.size + 1 ≤ w1.heap.size := by have := hb1.size; simp at this; omega
  clear HC hb0 hb1 hx
  go_wp2_with (go_at_call 28; with_reducible refine (HL.out _ hbw1).mono ?_; rintro e w2 ⟨rfl, rfl⟩)
  have hbW := hbw1.alloc hbw1.size (.cells #[.bool true] 4)
  have hox := BoxN.new w1 4 #[.bool true]
  have hlx := hx1.alloc (.cells #[.bool true] 4)
  have hszW : (w1.alloc (.cells #[.bool true] 4)).heap.size = w1.heap.size + 1 := by simp
  generalize (w1.alloc (.cells #[.bool true] 4)) = W at *
  have HE : Calls Tryd.prog 29 #[.slice A n c, .int .i64 ((n - 1 : Nat) : Int), .int .i64 0, .func (.func 30) #[] #[.pointer (some ⟨w1.heap.size, 0, none⟩), .pointer (some ⟨w.heap.size, 0, none⟩)]] W fun e w' => e = .returned (.tuple #[]) ∧ FitsInv w (w1.heap.size + 1) w1.heap.size w.heap.size b off cl L ([] ++ s.sets 0) w' ∧ KeepsUp (w1.heap.size + 1) W w' :=
    each_any (fits_sees hbw1.size (by omega) hbw hL h6 hT) h hs (by omega) 0 [] W (by decide) ⟨hbW, by omega, hox, hlx⟩
  clear HL
  refine HE.mono ?_
  rintro e w2 ⟨rfl, hI, -⟩
  have e2 : w2.cell? ⟨w1.heap.size, 0, none⟩ = some (.bool r) := by have h1 := hI.ok.cell (k := 0) rfl; rw [List.nil_append, hr] at h1; exact h1
  have hlow := hI.low
  clear hI HE
  go_wp2_with fail
  go_ret2
  exact ⟨rfl, hlow⟩
end Go.Proofs.YthaaekpnemhjoaaDoor
