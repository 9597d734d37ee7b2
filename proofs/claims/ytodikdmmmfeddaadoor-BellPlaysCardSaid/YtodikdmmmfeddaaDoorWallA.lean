/-
  Contracts: the wall's may and Ask. (printed by askwall.py)
-/
import Derived.Test.YtodikdmmmfeddaaDoorWallO
import Derived.Test.YtodikdmmmfeddaaDoorBibaA
namespace Go.Proofs.YtodikdmmmfeddaaDoor
open Go.RowKit
attribute [local go_sem] Oper.semAt_some
attribute [local simp, local go_sem] wide_fn
set_option maxRecDepth 100000
set_option linter.unusedVariables false

theorem Spares.trans {ok : Nat → Prop} {w w' w'' : World} (h : Spares ok w w') (k : Spares ok w' w'') (hs : w.heap.size ≤ w'.heap.size) : Spares ok w w'' := fun b hb hl => (k b hb (by omega)).trans (h b hb hl)
theorem Spares.of_below {ok : Nat → Prop} {w w' : World} (h : Below w.heap.size w w') : Spares ok w w' := fun b _ hl => h.block b hl

section
variable {w V : World} {base p : Nat} {T : List Int} {S : WS} {gt gs gh : Nat} {At As Ah : Option Addr} {ct cs ch : Nat}
theorem WallAt.setS {ok : Nat → Prop} (ns : ¬ ok gs) (h : WallAt w base p T S (some ⟨gt, 0, none⟩) (some ⟨gs, 0, none⟩) (some ⟨gh, 0, none⟩) ct cs ch) (ho : WOwn w base T S gt gs gh) (hB : base ≤ w.heap.size) (hb : Below w.heap.size w V) {i x : Nat} (hi : i < S.Saw.length) {z : Int} (hz : z = x) :
    WallAt (V.setCell ⟨gs, i, none⟩ (.int .i64 z)) base p T { S with Saw := S.Saw.set i x } (some ⟨gt, 0, none⟩) (some ⟨gs, 0, none⟩) (some ⟨gh, 0, none⟩) ct cs ch ∧ Below base w (V.setCell ⟨gs, i, none⟩ (.int .i64 z)) ∧ KeepsT 3 w (V.setCell ⟨gs, i, none⟩ (.int .i64 z)) ∧ Spares ok w (V.setCell ⟨gs, i, none⟩ (.int .i64 z)) := by
  subst hz
  have hV := ho.all hb
  have hS := hV.setS hi x
  refine ⟨⟨h.bp, ?_, hS.ot.ints, hS.os.ints, hS.oh.ints, fun _ _ => ⟨gt, gs, gh, rfl, rfl, rfl, hS⟩⟩, (hb.mono hB).setCell (p := ⟨gs, i, none⟩) ho.bs _, ?_⟩
  · show BoxN _ _ _ #[_, .slice _ (S.Saw.set i x).length cs, _]
    rw [List.length_set]
    exact (h.box.all hb).other (a := ⟨gs, i, none⟩) (ho.os.ne_box h.box int_ne_wall).symm _
  obtain ⟨cur, hg, _⟩ := hV.os
  refine ⟨(KeepsT.of_below hb).setCell hg _ _, fun b hok hbl => ?_⟩
  rw [Below.heap_setCell _ _ _ _ (fun e => ns (by have e : b = gs := e; rw [← e]; exact hok))]
  exact hb.block b hbl
theorem WallAt.setH {ok : Nat → Prop} (nh : ¬ ok gh) (h : WallAt w base p T S (some ⟨gt, 0, none⟩) (some ⟨gs, 0, none⟩) (some ⟨gh, 0, none⟩) ct cs ch) (ho : WOwn w base T S gt gs gh) (hB : base ≤ w.heap.size) (hb : Below w.heap.size w V) {i x : Nat} (hi : i < S.Ho.length) {z : Int} (hz : z = x) :
    WallAt (V.setCell ⟨gh, i, none⟩ (.int .i64 z)) base p T { S with Ho := S.Ho.set i x } (some ⟨gt, 0, none⟩) (some ⟨gs, 0, none⟩) (some ⟨gh, 0, none⟩) ct cs ch ∧ Below base w (V.setCell ⟨gh, i, none⟩ (.int .i64 z)) ∧ KeepsT 3 w (V.setCell ⟨gh, i, none⟩ (.int .i64 z)) ∧ Spares ok w (V.setCell ⟨gh, i, none⟩ (.int .i64 z)) := by
  subst hz
  have hV := ho.all hb
  have hS := hV.setH hi x
  refine ⟨⟨h.bp, ?_, hS.ot.ints, hS.os.ints, hS.oh.ints, fun _ _ => ⟨gt, gs, gh, rfl, rfl, rfl, hS⟩⟩, (hb.mono hB).setCell (p := ⟨gh, i, none⟩) ho.bh _, ?_⟩
  · show BoxN _ _ _ #[_, _, .slice _ (S.Ho.set i x).length ch]
    rw [List.length_set]
    exact (h.box.all hb).other (a := ⟨gh, i, none⟩) (ho.oh.ne_box h.box int_ne_wall).symm _
  obtain ⟨cur, hg, _⟩ := hV.oh
  refine ⟨(KeepsT.of_below hb).setCell hg _ _, fun b hok hbl => ?_⟩
  rw [Below.heap_setCell _ _ _ _ (fun e => nh (by have e : b = gh := e; rw [← e]; exact hok))]
  exact hb.block b hbl

set_option maxHeartbeats 1000000 in
theorem may_any (h : WallAt w base p T S At As Ah ct cs ch) (hT : Tab w) (hI : WInv T S) {u f : Nat} (hu : u < S.Saw.length) (hf : f < T.length) {r : Bool} (hr : others T (row S.Saw u) f (sameT T f) = r) :
    Calls Tryd.prog 46 #[.pointer (some ⟨p, 0, none⟩), .int .i64 u, .int .i64 f] w fun e w' => e = .returned (.bool !r) ∧ Below w.heap.size w w' := by
  have hb : Below w.heap.size w ((w.alloc (.cells #[.pointer (some ⟨p, 0, none⟩)] 41)).alloc (.cells #[.int .i64 (f : Nat)] 3)) := ((Below.refl _ _).alloc (Nat.le_refl _) _).alloc (by simp) _
  have hx1 := (BoxN.new w 41 #[.pointer (some ⟨p, 0, none⟩)]).alloc (.cells #[.int .i64 (f : Nat)] 3)
  have hx2 := BoxN.new (w.alloc (.cells #[.pointer (some ⟨p, 0, none⟩)] 41)) 3 #[.int .i64 (f : Nat)]
  simp only [World.size_alloc] at hx2
  have hn8 := hI.ln
  have HO := Lib.hid (others_any (h.all hb) (hT.next hb) hI hu hf (sameT T f) 63 #[.pointer (some ⟨w.heap.size, 0, none⟩), .pointer (some ⟨w.heap.size + 1, 0, none⟩)] (enters_of Tryd.func63 (by kernel_rfl) rfl)
    (fun V i hV hi => may1_any ((h.all hb).all hV) hi hf (by omega) ((hx1.all hV).cell rfl) ((hx2.all hV).cell rfl)))
  rw [hr] at HO
  clear h hT hI hx1 hx2 hr
  go_enter Tryd.func46, Tryd.ntmps46
  go_wp2_with fail
  with_reducible refine HO.out.mono ?_
  rintro e w1 ⟨rfl, hb1⟩
  go_wp2_with fail
  go_ret
  exact ⟨by first | rfl | (cases r <;> rfl), hb.trans (hb1.mono hb.size)⟩

set_option maxHeartbeats 1000000 in
/-- Asked what may not be asked. -/
theorem WAsk_range (h : WallAt w base p T S At As Ah ct cs ch) (hl : S.Saw.length ≤ 100) (hl2 : T.length ≤ 100) (k u f t : Int) (hno : ¬ wOk T S k u f) :
    Calls Tryd.prog 24 #[.pointer (some ⟨p, 0, none⟩), .agg #[.int .i64 k, .int .i64 u, .int .i64 f, .int .i64 t]] w fun e w' => e = .returned (.iface 70 (.int .i64 1)) ∧ Below w.heap.size w w' := by
  have c0 : w.cell? ⟨p, 0, none⟩ = some (.slice At T.length ct) := h.box.cell rfl
  have c1 : w.cell? ⟨p, 1, none⟩ = some (.slice As S.Saw.length cs) := h.box.cell rfl
  have hp := h.box.lt
  unfold wOk at hno
  by_cases h1 : 0 ≤ k ∧ k ≤ 1
  · have C1 := Lib.hid (fun V => Within3_is k 0 1 true V (by simp; omega))
    by_cases h2 : 0 ≤ u ∧ u < S.Saw.length
    · have C2 := Lib.hid (fun V => Within3_is u 0 ((S.Saw.length : Int) - 1) true V (by simp; omega))
      have C3 := Lib.hid (fun V => Within3_is f 0 ((T.length : Int) - 1) false V (by simp; omega))
      clear h1 h2
      have hb : Below w.heap.size w ((w.alloc (.cells #[.pointer (some ⟨p, 0, none⟩)] 41)).alloc (.cells #[.int .i64 k, .int .i64 u, .int .i64 f, .int .i64 t] 31)) := ((Below.refl _ _).alloc (Nat.le_refl _) _).alloc (by simp) _
      have hx1 := (BoxN.new w 41 #[.pointer (some ⟨p, 0, none⟩)]).alloc (.cells #[.int .i64 k, .int .i64 u, .int .i64 f, .int .i64 t] 31)
      have hx2 := BoxN.new (w.alloc (.cells #[.pointer (some ⟨p, 0, none⟩)] 41)) 31 #[.int .i64 k, .int .i64 u, .int .i64 f, .int .i64 t]
      simp only [World.size_alloc] at hx2
      have hsz : ((w.alloc (.cells #[.pointer (some ⟨p, 0, none⟩)] 41)).alloc (.cells #[.int .i64 k, .int .i64 u, .int .i64 f, .int .i64 t] 31)).heap.size = w.heap.size + 1 + 1 := by simp
      generalize hWA : ((w.alloc (.cells #[.pointer (some ⟨p, 0, none⟩)] 41)).alloc (.cells #[.int .i64 k, .int .i64 u, .int .i64 f, .int .i64 t] 31)) = WA at *
      have Hsz := Lib.hid hsz
      clear hsz
      have e0 : WA.cell? ⟨p, 0, none⟩ = some (.slice At T.length ct) := (hb.cell (p := ⟨p, 0, none⟩) hp).trans c0
      have e1 : WA.cell? ⟨p, 1, none⟩ = some (.slice As S.Saw.length cs) := (hb.cell (p := ⟨p, 1, none⟩) hp).trans c1
      have x0 : WA.cell? ⟨w.heap.size, 0, none⟩ = some (.pointer (some ⟨p, 0, none⟩)) := hx1.cell rfl
      have y0 : WA.cell? ⟨w.heap.size + 1, 0, none⟩ = some (.int .i64 k) := hx2.cell rfl
      have y1 : WA.cell? ⟨w.heap.size + 1, 1, none⟩ = some (.int .i64 u) := hx2.cell rfl
      have y2 : WA.cell? ⟨w.heap.size + 1, 2, none⟩ = some (.int .i64 f) := hx2.cell rfl
      clear h hno
      generalize S.Saw.length = nu at *
      generalize T.length = nf at *
      go_enter Tryd.func24, Tryd.ntmps24
      go_wp2_with fail
      go_quiet (first | (with_reducible exact quiet1 (C1.out _)) | (with_reducible exact quiet1 (C2.out _)) | (with_reducible exact quiet1 (C3.out _)))
      go_wp2_with fail
      go_ret
      exact ⟨rfl, belowD hb nq⟩
    · have C2 := Lib.hid (fun V => Within3_is u 0 ((S.Saw.length : Int) - 1) false V (by simp; omega))
      clear h1 h2
      have hb : Below w.heap.size w ((w.alloc (.cells #[.pointer (some ⟨p, 0, none⟩)] 41)).alloc (.cells #[.int .i64 k, .int .i64 u, .int .i64 f, .int .i64 t] 31)) := ((Below.refl _ _).alloc (Nat.le_refl _) _).alloc (by simp) _
      have hx1 := (BoxN.new w 41 #[.pointer (some ⟨p, 0, none⟩)]).alloc (.cells #[.int .i64 k, .int .i64 u, .int .i64 f, .int .i64 t] 31)
      have hx2 := BoxN.new (w.alloc (.cells #[.pointer (some ⟨p, 0, none⟩)] 41)) 31 #[.int .i64 k, .int .i64 u, .int .i64 f, .int .i64 t]
      simp only [World.size_alloc] at hx2
      have hsz : ((w.alloc (.cells #[.pointer (some ⟨p, 0, none⟩)] 41)).alloc (.cells #[.int .i64 k, .int .i64 u, .int .i64 f, .int .i64 t] 31)).heap.size = w.heap.size + 1 + 1 := by simp
      generalize hWA : ((w.alloc (.cells #[.pointer (some ⟨p, 0, none⟩)] 41)).alloc (.cells #[.int .i64 k, .int .i64 u, .int .i64 f, .int .i64 t] 31)) = WA at *
      have Hsz := Lib.hid hsz
      clear hsz
      have e0 : WA.cell? ⟨p, 0, none⟩ = some (.slice At T.length ct) := (hb.cell (p := ⟨p, 0, none⟩) hp).trans c0
      have e1 : WA.cell? ⟨p, 1, none⟩ = some (.slice As S.Saw.length cs) := (hb.cell (p := ⟨p, 1, none⟩) hp).trans c1
      have x0 : WA.cell? ⟨w.heap.size, 0, none⟩ = some (.pointer (some ⟨p, 0, none⟩)) := hx1.cell rfl
      have y0 : WA.cell? ⟨w.heap.size + 1, 0, none⟩ = some (.int .i64 k) := hx2.cell rfl
      have y1 : WA.cell? ⟨w.heap.size + 1, 1, none⟩ = some (.int .i64 u) := hx2.cell rfl
      have y2 : WA.cell? ⟨w.heap.size + 1, 2, none⟩ = some (.int .i64 f) := hx2.cell rfl
      clear h hno
      generalize S.Saw.length = nu at *
      generalize T.length = nf at *
      go_enter Tryd.func24, Tryd.ntmps24
      go_wp2_with fail
      go_quiet (first | (with_reducible exact quiet1 (C1.out _)) | (with_reducible exact quiet1 (C2.out _)))
      go_wp2_with fail
      go_ret
      exact ⟨rfl, belowD hb nq⟩
  · have C1 := Lib.hid (fun V => Within3_is k 0 1 false V (by simp; omega))
    clear h1
    have hb : Below w.heap.size w ((w.alloc (.cells #[.pointer (some ⟨p, 0, none⟩)] 41)).alloc (.cells #[.int .i64 k, .int .i64 u, .int .i64 f, .int .i64 t] 31)) := ((Below.refl _ _).alloc (Nat.le_refl _) _).alloc (by simp) _
    have hx1 := (BoxN.new w 41 #[.pointer (some ⟨p, 0, none⟩)]).alloc (.cells #[.int .i64 k, .int .i64 u, .int .i64 f, .int .i64 t] 31)
    have hx2 := BoxN.new (w.alloc (.cells #[.pointer (some ⟨p, 0, none⟩)] 41)) 31 #[.int .i64 k, .int .i64 u, .int .i64 f, .int .i64 t]
    simp only [World.size_alloc] at hx2
    have hsz : ((w.alloc (.cells #[.pointer (some ⟨p, 0, none⟩)] 41)).alloc (.cells #[.int .i64 k, .int .i64 u, .int .i64 f, .int .i64 t] 31)).heap.size = w.heap.size + 1 + 1 := by simp
    generalize hWA : ((w.alloc (.cells #[.pointer (some ⟨p, 0, none⟩)] 41)).alloc (.cells #[.int .i64 k, .int .i64 u, .int .i64 f, .int .i64 t] 31)) = WA at *
    have Hsz := Lib.hid hsz
    clear hsz
    have e0 : WA.cell? ⟨p, 0, none⟩ = some (.slice At T.length ct) := (hb.cell (p := ⟨p, 0, none⟩) hp).trans c0
    have e1 : WA.cell? ⟨p, 1, none⟩ = some (.slice As S.Saw.length cs) := (hb.cell (p := ⟨p, 1, none⟩) hp).trans c1
    have x0 : WA.cell? ⟨w.heap.size, 0, none⟩ = some (.pointer (some ⟨p, 0, none⟩)) := hx1.cell rfl
    have y0 : WA.cell? ⟨w.heap.size + 1, 0, none⟩ = some (.int .i64 k) := hx2.cell rfl
    have y1 : WA.cell? ⟨w.heap.size + 1, 1, none⟩ = some (.int .i64 u) := hx2.cell rfl
    have y2 : WA.cell? ⟨w.heap.size + 1, 2, none⟩ = some (.int .i64 f) := hx2.cell rfl
    clear h hno
    generalize S.Saw.length = nu at *
    generalize T.length = nf at *
    go_enter Tryd.func24, Tryd.ntmps24
    go_wp2_with fail
    go_quiet (first | (with_reducible exact quiet1 (C1.out _)))
    go_wp2_with fail
    go_ret
    exact ⟨rfl, belowD hb nq⟩

set_option maxHeartbeats 2000000 in
theorem WAsk_denied (h : WallAt w base p T S At As Ah ct cs ch) (hT : Tab w) (hI : WInv T S) (hB : base ≤ w.heap.size) (k : Int) (hk : 0 ≤ k ∧ k ≤ 1) (u f : Nat) (t : Int) (hu : u < S.Saw.length) (hf : f < T.length) (hr : others T (row S.Saw u) f (sameT T f) = true) :
    Calls Tryd.prog 24 #[.pointer (some ⟨p, 0, none⟩), .agg #[.int .i64 k, .int .i64 u, .int .i64 f, .int .i64 t]] w fun e w' => e = .returned (.iface 70 (.int .i64 7)) ∧ Below w.heap.size w w' := by
  have hn8 := hI.ln
  have hm8 := hI.lm
  have c0 : w.cell? ⟨p, 0, none⟩ = some (.slice At T.length ct) := h.box.cell rfl
  have c1 : w.cell? ⟨p, 1, none⟩ = some (.slice As S.Saw.length cs) := h.box.cell rfl
  have hp := h.box.lt
  have C1 := Lib.hid (fun V => Within3_is k 0 1 true V (by simp; try omega))
  have C2 := Lib.hid (fun V => Within3_is (u : Int) 0 ((S.Saw.length : Int) - 1) true V (by simp; omega))
  have C3 := Lib.hid (fun V => Within3_is (f : Int) 0 ((T.length : Int) - 1) true V (by simp; omega))
  have hb : Below w.heap.size w ((w.alloc (.cells #[.pointer (some ⟨p, 0, none⟩)] 41)).alloc (.cells #[.int .i64 k, .int .i64 u, .int .i64 f, .int .i64 t] 31)) := ((Below.refl _ _).alloc (Nat.le_refl _) _).alloc (by simp) _
  have hx1 := (BoxN.new w 41 #[.pointer (some ⟨p, 0, none⟩)]).alloc (.cells #[.int .i64 k, .int .i64 u, .int .i64 f, .int .i64 t] 31)
  have hx2 := BoxN.new (w.alloc (.cells #[.pointer (some ⟨p, 0, none⟩)] 41)) 31 #[.int .i64 k, .int .i64 u, .int .i64 f, .int .i64 t]
  simp only [World.size_alloc] at hx2
  have hsz : ((w.alloc (.cells #[.pointer (some ⟨p, 0, none⟩)] 41)).alloc (.cells #[.int .i64 k, .int .i64 u, .int .i64 f, .int .i64 t] 31)).heap.size = w.heap.size + 1 + 1 := by simp
  generalize hWA : ((w.alloc (.cells #[.pointer (some ⟨p, 0, none⟩)] 41)).alloc (.cells #[.int .i64 k, .int .i64 u, .int .i64 f, .int .i64 t] 31)) = WA at *
  have Hsz := Lib.hid hsz
  clear hsz
  have e0 : WA.cell? ⟨p, 0, none⟩ = some (.slice At T.length ct) := (hb.cell (p := ⟨p, 0, none⟩) hp).trans c0
  have e1 : WA.cell? ⟨p, 1, none⟩ = some (.slice As S.Saw.length cs) := (hb.cell (p := ⟨p, 1, none⟩) hp).trans c1
  have x0 : WA.cell? ⟨w.heap.size, 0, none⟩ = some (.pointer (some ⟨p, 0, none⟩)) := hx1.cell rfl
  have y0 : WA.cell? ⟨w.heap.size + 1, 0, none⟩ = some (.int .i64 k) := hx2.cell rfl
  have y1 : WA.cell? ⟨w.heap.size + 1, 1, none⟩ = some (.int .i64 u) := hx2.cell rfl
  have y2 : WA.cell? ⟨w.heap.size + 1, 2, none⟩ = some (.int .i64 f) := hx2.cell rfl
  have CM := Lib.hid (fun V (hV : Below WA.heap.size WA V) => (may_any ((h.all hb).all hV) (hT.next (hb.trans (hV.mono hb.size))) hI hu hf hr).mono fun e w' ⟨he, hx⟩ => (⟨he, hV.trans (hx.mono hV.size)⟩ : _ ∧ Below WA.heap.size WA w'))
  clear h hT hI hr c0 c1
  generalize S.Saw.length = nu at *
  generalize T.length = nf at *
  go_enter Tryd.func24, Tryd.ntmps24
  go_wp2_with fail
  go_quiet (first | (with_reducible exact quiet1 (C1.out _)) | (with_reducible exact quiet1 (C2.out _)) | (with_reducible exact quiet1 (C3.out _)))
  go_wp2_with fail
  with_reducible refine (CM.out _ (belowD (Below.refl _ _) nq)).mono ?_
  rintro e w1 ⟨rfl, hb1⟩
  go_wp2_with fail
  go_ret
  exact ⟨rfl, hb.trans (hb1.mono hb.size)⟩

set_option maxHeartbeats 2000000 in
theorem WAsk_read {ok : Nat → Prop} (h : WallAt w base p T S At As Ah ct cs ch) (hT : Tab w) (hI : WInv T S) (hB : base ≤ w.heap.size) (hno : S.Saw ≠ [] → T ≠ [] → ∀ g, (As = some ⟨g, 0, none⟩ ∨ Ah = some ⟨g, 0, none⟩) → ¬ ok g) (u f : Nat) (t : Int) (hu : u < S.Saw.length) (hf : f < T.length) (hr : others T (row S.Saw u) f (sameT T f) = false) :
    Calls Tryd.prog 24 #[.pointer (some ⟨p, 0, none⟩), .agg #[.int .i64 0, .int .i64 u, .int .i64 f, .int .i64 t]] w fun e w' => e = .returned .nilIface ∧ WallAt w' base p T { S with Saw := S.Saw.set u (row S.Saw u ||| 2 ^ f) } At As Ah ct cs ch ∧ Below base w w' ∧ KeepsT 3 w w' ∧ Spares ok w w' := by
  obtain ⟨gt, gs, gh, rfl, rfl, rfl, ho⟩ := h.own (by intro e; simp [e] at hu) (by intro e; simp [e] at hf)
  have hno := hno (by intro e; simp [e] at hu) (by intro e; simp [e] at hf)
  have ns : ¬ ok gs := hno gs (.inl rfl)
  have nh : ¬ ok gh := hno gh (.inr rfl)
  clear hno
  have hn8 := hI.ln
  have hm8 := hI.lm
  have c0 : w.cell? ⟨p, 0, none⟩ = some (.slice (some ⟨gt, 0, none⟩) T.length ct) := h.box.cell rfl
  have c1 : w.cell? ⟨p, 1, none⟩ = some (.slice (some ⟨gs, 0, none⟩) S.Saw.length cs) := h.box.cell rfl
  have hp := h.box.lt
  have C1 := Lib.hid (fun V => Within3_is 0 0 1 true V (by simp; try omega))
  have C2 := Lib.hid (fun V => Within3_is (u : Int) 0 ((S.Saw.length : Int) - 1) true V (by simp; omega))
  have C3 := Lib.hid (fun V => Within3_is (f : Int) 0 ((T.length : Int) - 1) true V (by simp; omega))
  have hb : Below w.heap.size w ((w.alloc (.cells #[.pointer (some ⟨p, 0, none⟩)] 41)).alloc (.cells #[.int .i64 0, .int .i64 u, .int .i64 f, .int .i64 t] 31)) := ((Below.refl _ _).alloc (Nat.le_refl _) _).alloc (by simp) _
  have hx1 := (BoxN.new w 41 #[.pointer (some ⟨p, 0, none⟩)]).alloc (.cells #[.int .i64 0, .int .i64 u, .int .i64 f, .int .i64 t] 31)
  have hx2 := BoxN.new (w.alloc (.cells #[.pointer (some ⟨p, 0, none⟩)] 41)) 31 #[.int .i64 0, .int .i64 u, .int .i64 f, .int .i64 t]
  simp only [World.size_alloc] at hx2
  have hsz : ((w.alloc (.cells #[.pointer (some ⟨p, 0, none⟩)] 41)).alloc (.cells #[.int .i64 0, .int .i64 u, .int .i64 f, .int .i64 t] 31)).heap.size = w.heap.size + 1 + 1 := by simp
  generalize hWA : ((w.alloc (.cells #[.pointer (some ⟨p, 0, none⟩)] 41)).alloc (.cells #[.int .i64 0, .int .i64 u, .int .i64 f, .int .i64 t] 31)) = WA at *
  have Hsz := Lib.hid hsz
  clear hsz
  have e0 : WA.cell? ⟨p, 0, none⟩ = some (.slice (some ⟨gt, 0, none⟩) T.length ct) := (hb.cell (p := ⟨p, 0, none⟩) hp).trans c0
  have e1 : WA.cell? ⟨p, 1, none⟩ = some (.slice (some ⟨gs, 0, none⟩) S.Saw.length cs) := (hb.cell (p := ⟨p, 1, none⟩) hp).trans c1
  have x0 : WA.cell? ⟨w.heap.size, 0, none⟩ = some (.pointer (some ⟨p, 0, none⟩)) := hx1.cell rfl
  have y0 : WA.cell? ⟨w.heap.size + 1, 0, none⟩ = some (.int .i64 0) := hx2.cell rfl
  have y1 : WA.cell? ⟨w.heap.size + 1, 1, none⟩ = some (.int .i64 u) := hx2.cell rfl
  have y2 : WA.cell? ⟨w.heap.size + 1, 2, none⟩ = some (.int .i64 f) := hx2.cell rfl
  have CM := Lib.hid (fun V (hV : Below WA.heap.size WA V) => (may_any ((h.all hb).all hV) (hT.next (hb.trans (hV.mono hb.size))) hI hu hf hr).mono fun e w' ⟨he, hx⟩ => (⟨he, hV.trans (hx.mono hV.size)⟩ : _ ∧ Below WA.heap.size WA w'))
  have H := Lib.hid (fun (V : World) (hV : Below w.heap.size w V) (z : Int) (hz : z = ((row S.Saw u ||| 2 ^ f : Nat) : Int)) => h.setS ns ho hB hV hu hz)
  have cs0 := ho.os.row_ hu
  have ls := ho.os.lt
  have fs := ho.os.free u
  have hs256 := hI.saw_lt u
  have hp2 : 2 ^ f < 2 ^ 62 := Nat.pow_lt_pow_right (by decide) (by omega)
  have hb1 : bits .or .i64 ((row S.Saw u : Nat) : Int) (IntKind.i64.wrap (2 ^ f)) = ((row S.Saw u ||| 2 ^ f : Nat) : Int) := by
    rw [wrap_pow f (by omega)]; exact bits_or_nat _ _ (by omega) hp2
  have hb2 : bits .or .i64 ((row S.Saw u : Nat) : Int) (wrap64 (2 ^ f)) = ((row S.Saw u ||| 2 ^ f : Nat) : Int) := by
    rw [wrap64_pow f (by omega)]; exact bits_or_nat _ _ (by omega) hp2
  have hf62 : f < 62 := by omega
  clear h hT hI hr c0 c1 ho ns nh hp2
  generalize row S.Saw u ||| 2 ^ f = x at *
  generalize row S.Saw u = s at *
  generalize hnu : S.Saw.length = nu at *
  generalize T.length = nf at *
  clear hnu
  go_enter Tryd.func24, Tryd.ntmps24
  go_wp2_with fail
  go_quiet (first | (with_reducible exact quiet1 (C1.out _)) | (with_reducible exact quiet1 (C2.out _)) | (with_reducible exact quiet1 (C3.out _)))
  go_wp2_with fail
  with_reducible refine (CM.out _ (belowD (Below.refl _ _) nq)).mono ?_
  rintro e w1 ⟨rfl, hb1⟩
  have hbl := hb.trans (hb1.mono hb.size)
  have e1' := (hb1.cell (p := ⟨p, 1, none⟩) (by have := Hsz.out; show p < _; omega)).trans e1
  have x0' := (hb1.cell (p := ⟨w.heap.size, 0, none⟩) hx1.lt).trans x0
  have y0' := (hb1.cell (p := ⟨w.heap.size + 1, 0, none⟩) hx2.lt).trans y0
  have y1' := (hb1.cell (p := ⟨w.heap.size + 1, 1, none⟩) hx2.lt).trans y1
  have y2' := (hb1.cell (p := ⟨w.heap.size + 1, 2, none⟩) hx2.lt).trans y2
  have s0' := (hbl.cell (p := ⟨gs, u, none⟩) ls).trans cs0
  have fs' := (hbl.frozen (p := ⟨gs, u, none⟩) ls).trans fs
  clear hx1 hx2 e0 e1 x0 y0 y1 y2 cs0 fs CM
  go_wp2_with fail
  refine wp_still_tailD 13 (by kernel_rfl) (by kernel_rfl) ?_
  simp only [List.take_succ_cons, List.take_zero, List.drop_succ_cons, List.drop_zero]
  repeat still_step
  refine wpStill_nil ?_
  go_wp2_with fail
  go_ret
  exact ⟨rfl, H.out _ (belowD hbl _) _ rfl⟩

set_option maxHeartbeats 2000000 in
theorem WAsk_denied2 (h : WallAt w base p T S At As Ah ct cs ch) (hT : Tab w) (hI : WInv T S) (hB : base ≤ w.heap.size) (u f : Nat) (t : Int) (hu : u < S.Saw.length) (hf : f < T.length) (hr : others T (row S.Saw u) f (sameT T f) = false) (hr2 : others T (row S.Saw u) f (fun _ => true) = true) :
    Calls Tryd.prog 24 #[.pointer (some ⟨p, 0, none⟩), .agg #[.int .i64 1, .int .i64 u, .int .i64 f, .int .i64 t]] w fun e w' => e = .returned (.iface 70 (.int .i64 7)) ∧ Below w.heap.size w w' := by
  have hn8 := hI.ln
  have hm8 := hI.lm
  have c0 : w.cell? ⟨p, 0, none⟩ = some (.slice At T.length ct) := h.box.cell rfl
  have c1 : w.cell? ⟨p, 1, none⟩ = some (.slice As S.Saw.length cs) := h.box.cell rfl
  have hp := h.box.lt
  have C1 := Lib.hid (fun V => Within3_is 1 0 1 true V (by simp; try omega))
  have C2 := Lib.hid (fun V => Within3_is (u : Int) 0 ((S.Saw.length : Int) - 1) true V (by simp; omega))
  have C3 := Lib.hid (fun V => Within3_is (f : Int) 0 ((T.length : Int) - 1) true V (by simp; omega))
  have hb : Below w.heap.size w ((w.alloc (.cells #[.pointer (some ⟨p, 0, none⟩)] 41)).alloc (.cells #[.int .i64 1, .int .i64 u, .int .i64 f, .int .i64 t] 31)) := ((Below.refl _ _).alloc (Nat.le_refl _) _).alloc (by simp) _
  have hx1 := (BoxN.new w 41 #[.pointer (some ⟨p, 0, none⟩)]).alloc (.cells #[.int .i64 1, .int .i64 u, .int .i64 f, .int .i64 t] 31)
  have hx2 := BoxN.new (w.alloc (.cells #[.pointer (some ⟨p, 0, none⟩)] 41)) 31 #[.int .i64 1, .int .i64 u, .int .i64 f, .int .i64 t]
  simp only [World.size_alloc] at hx2
  have hsz : ((w.alloc (.cells #[.pointer (some ⟨p, 0, none⟩)] 41)).alloc (.cells #[.int .i64 1, .int .i64 u, .int .i64 f, .int .i64 t] 31)).heap.size = w.heap.size + 1 + 1 := by simp
  generalize hWA : ((w.alloc (.cells #[.pointer (some ⟨p, 0, none⟩)] 41)).alloc (.cells #[.int .i64 1, .int .i64 u, .int .i64 f, .int .i64 t] 31)) = WA at *
  have Hsz := Lib.hid hsz
  clear hsz
  have e0 : WA.cell? ⟨p, 0, none⟩ = some (.slice At T.length ct) := (hb.cell (p := ⟨p, 0, none⟩) hp).trans c0
  have e1 : WA.cell? ⟨p, 1, none⟩ = some (.slice As S.Saw.length cs) := (hb.cell (p := ⟨p, 1, none⟩) hp).trans c1
  have x0 : WA.cell? ⟨w.heap.size, 0, none⟩ = some (.pointer (some ⟨p, 0, none⟩)) := hx1.cell rfl
  have y0 : WA.cell? ⟨w.heap.size + 1, 0, none⟩ = some (.int .i64 1) := hx2.cell rfl
  have y1 : WA.cell? ⟨w.heap.size + 1, 1, none⟩ = some (.int .i64 u) := hx2.cell rfl
  have y2 : WA.cell? ⟨w.heap.size + 1, 2, none⟩ = some (.int .i64 f) := hx2.cell rfl
  have CM := Lib.hid (fun V (hV : Below WA.heap.size WA V) => (may_any ((h.all hb).all hV) (hT.next (hb.trans (hV.mono hb.size))) hI hu hf hr).mono fun e w' ⟨he, hx⟩ => (⟨he, hV.trans (hx.mono hV.size)⟩ : _ ∧ Below WA.heap.size WA w'))
  have CO := Lib.hid (fun V (hV : Below WA.heap.size WA V) => (others_any ((h.all hb).all hV) (hT.next (hb.trans (hV.mono hb.size))) hI hu hf (fun _ => true) 48 #[] (enters_of Tryd.func48 (by kernel_rfl) rfl) (fun V i _ _ => always_any _)).mono fun e w' ⟨he, hx⟩ => (⟨he, hV.trans (hx.mono hV.size)⟩ : _ ∧ Below WA.heap.size WA w'))
  rw [hr2] at CO
  clear h hT hI hr c0 c1 hr2
  generalize S.Saw.length = nu at *
  generalize T.length = nf at *
  go_enter Tryd.func24, Tryd.ntmps24
  go_wp2_with fail
  go_quiet (first | (with_reducible exact quiet1 (C1.out _)) | (with_reducible exact quiet1 (C2.out _)) | (with_reducible exact quiet1 (C3.out _)))
  go_wp2_with fail
  with_reducible refine (CM.out _ (belowD (Below.refl _ _) nq)).mono ?_
  rintro e w1 ⟨rfl, hb1⟩
  have x0' := (hb1.cell (p := ⟨w.heap.size, 0, none⟩) hx1.lt).trans x0
  have y0' := (hb1.cell (p := ⟨w.heap.size + 1, 0, none⟩) hx2.lt).trans y0
  have y1' := (hb1.cell (p := ⟨w.heap.size + 1, 1, none⟩) hx2.lt).trans y1
  have y2' := (hb1.cell (p := ⟨w.heap.size + 1, 2, none⟩) hx2.lt).trans y2
  clear hx1 hx2 e0 e1 x0 y0 y1 y2 CM
  go_wp2_with fail
  with_reducible refine (CO.out _ hb1).mono ?_
  rintro e w2 ⟨rfl, hb2⟩
  go_wp2_with fail
  go_ret
  exact ⟨rfl, hb.trans (hb2.mono hb.size)⟩
end
end Go.Proofs.YtodikdmmmfeddaaDoor
