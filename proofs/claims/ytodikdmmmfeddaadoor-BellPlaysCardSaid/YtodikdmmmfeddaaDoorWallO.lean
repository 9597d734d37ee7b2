/-
  Contract: the wall's others.
-/
import Derived.Test.YtodikdmmmfeddaaDoorWallM
import Derived.Test.YtodikdmmmfeddaaDoorBits
import Derived.Test.YtodikdmmmfeddaaDoorTail
import Derived.Test.YtodikdmmmfeddaaDoorOver
namespace Go.Proofs.YtodikdmmmfeddaaDoor
open Go.RowKit
attribute [local go_sem] Oper.semAt_some
attribute [local simp, local go_sem] wide_fn
set_option maxRecDepth 100000
set_option linter.unusedVariables false

theorem wrap_pow (k : Nat) (h : k < 62) : IntKind.i64.wrap (2 ^ k) = ((2 ^ k : Nat) : Int) := by
  have h0 := two_pow_lt k h
  have h1 : (0 : Int) < 2 ^ k := Int.pow_pos (by decide)
  rw [IntKind.wrap_i64]; push_cast; omega

section
variable {w w' : World} {base p : Nat} {T : List Int} {S : WS} {At As Ah : Option Addr} {ct cs ch : Nat}
set_option maxHeartbeats 4000000 in
theorem others_any (h : WallAt w base p T S At As Ah ct cs ch) (hT : Tab w) (hI : WInv T S) {u f : Nat} (hu : u < S.Saw.length) (hf : f < T.length) (what : Nat → Bool) (fn : FuncId) (caps : Array Value) (hen : Enters Tryd.prog fn)
    (hw : ∀ V i, Below w.heap.size w V → i < T.length → Calls Tryd.prog fn (#[.int .i64 (i : Nat)] ++ caps) V fun e w' => e = .returned (.bool (what i)) ∧ ∃ q, V.drewN q = w') :
    Calls Tryd.prog 47 #[.pointer (some ⟨p, 0, none⟩), .int .i64 u, .int .i64 f, .func (.func fn) #[] caps] w fun e w' => e = .returned (.bool (others T (row S.Saw u) f what)) ∧ Below w.heap.size w w' := by
  refine (callsIn_wide (n := 8)).1 ?_
  have hg := hT.lt
  have hn8 := hI.ln
  have hs8 : row S.Saw u < 2 ^ T.length := hI.bs u
  have hs256 := hI.saw_lt u
  have hd8 : diff (row S.Saw u) (2 ^ f) < 2 ^ T.length := diff_lt hs8
  have hd256 : diff (row S.Saw u) (2 ^ f) < 256 := Nat.lt_of_le_of_lt (diff_le _ _) hs256
  have hp2 : 2 ^ f < 2 ^ 62 := Nat.pow_lt_pow_right (by decide) (by omega)
  have hb1 : bits .andNot .i64 ((row S.Saw u : Nat) : Int) (IntKind.i64.wrap (2 ^ f)) = ((diff (row S.Saw u) (2 ^ f) : Nat) : Int) := by
    rw [wrap_pow f (by omega)]; exact bits_andNot_nat _ _ (by omega) hp2
  have hb2 : bits .andNot .i64 ((row S.Saw u : Nat) : Int) (wrap64 (2 ^ f)) = ((diff (row S.Saw u) (2 ^ f) : Nat) : Int) := by
    rw [wrap64_pow f (by omega)]; exact bits_andNot_nat _ _ (by omega) hp2
  have c0 : w.cell? ⟨p, 0, none⟩ = some (.slice At T.length ct) := h.box.cell rfl
  have c1 : w.cell? ⟨p, 1, none⟩ = some (.slice As S.Saw.length cs) := h.box.cell rfl
  have hp := h.box.lt
  obtain ⟨bs, os, rfl, cs0⟩ := h.is.row hu
  obtain ⟨bt, ot, rfl, ctt⟩ := h.it (by intro e; simp [e] at hf)
  have hbs : bs < w.heap.size := block_lt cs0
  have hbt : bt < w.heap.size := block_lt (ctt f _ (get_gI hf))
  have hf62 : f < 62 := by omega
  have Hot := Lib.hid (show others T (row S.Saw u) f what = (bitsOf (diff (row S.Saw u) (2 ^ f))).any (fun i => decide (gI T i ≠ 0) && what i) from rfl)
  have Hbit := Lib.hid (fun x (hx : (diff (row S.Saw u) (2 ^ f)).testBit x = true) => bit_below hd8 hx)
  have Hmem := Lib.hid (fun i => mem_bitsOf (r := diff (row S.Saw u) (2 ^ f)) (i := i) (by omega))
  have Hct := Lib.hid ctt
  clear ctt hI hs8 hd8 hp2
  generalize diff (row S.Saw u) (2 ^ f) = d at *
  generalize row S.Saw u = s at *
  generalize others T s f what = r at *
  clear h
  generalize S.Saw.length = m at *
  have hn : T.length = T.length := rfl
  generalize hn' : T.length = n at *
  have Hn := Lib.hid hn'
  clear hn hn'
  have hrc : ∀ (args : Array Value) (V : World), (callFunc fn args).run Tryd.prog V = .ok (.enter fn args) V := fun args V => hen args V
  refine callsIn_of_wp_marks Tryd.func47 rfl trivial ?_ rfl
  simp only [Tryd.ntmps47, List.size_toArray, List.length_cons, List.length_nil, Nat.reduceAdd, Nat.reduceSub, Array.replicate_succ, Array.replicate_zero, List.push_toArray, List.append_toArray, List.nil_append, List.cons_append]
  gi_wp2_with fail
  have hx1 := ((BoxN.new w 41 #[.pointer (some ⟨p, 0, none⟩)]).alloc (.cells #[.func (.func fn) #[] caps] 77)).alloc (.cells #[.bool false] 4)
  have hx2 := (BoxN.new (w.alloc (.cells #[.pointer (some ⟨p, 0, none⟩)] 41)) 77 #[.func (.func fn) #[] caps]).alloc (.cells #[.bool false] 4)
  have hx3 := BoxN.new ((w.alloc (.cells #[.pointer (some ⟨p, 0, none⟩)] 41)).alloc (.cells #[.func (.func fn) #[] caps] 77)) 4 #[.bool false]
  have hbl : Below w.heap.size w (((w.alloc (.cells #[.pointer (some ⟨p, 0, none⟩)] 41)).alloc (.cells #[.func (.func fn) #[] caps] 77)).alloc (.cells #[.bool false] 4)) := (((Below.refl _ _).alloc (Nat.le_refl _) _).alloc (by simp) _).alloc (by simp; omega) _
  have hsz : (((w.alloc (.cells #[.pointer (some ⟨p, 0, none⟩)] 41)).alloc (.cells #[.func (.func fn) #[] caps] 77)).alloc (.cells #[.bool false] 4)).heap.size = w.heap.size + 1 + 1 + 1 := by simp
  simp only [World.size_alloc] at hx2 hx3
  generalize ((w.alloc (.cells #[.pointer (some ⟨p, 0, none⟩)] 41)).alloc (.cells #[.func (.func fn) #[] caps] 77)).alloc (.cells #[.bool false] 4) = W at *
  have e0 : W.cell? ⟨p, 0, none⟩ = some (.slice (some ⟨bt, ot, none⟩) n ct) := (hbl.cell (p := ⟨p, 0, none⟩) hp).trans c0
  have e1 : W.cell? ⟨p, 1, none⟩ = some (.slice (some ⟨bs, os, none⟩) m cs) := (hbl.cell (p := ⟨p, 1, none⟩) hp).trans c1
  have e2 : W.cell? ⟨bs, os + u, none⟩ = some (.int .i64 (s : Nat)) := (hbl.cell (p := ⟨bs, os + u, none⟩) hbs).trans cs0
  have x1 : W.cell? ⟨w.heap.size, 0, none⟩ = some (.pointer (some ⟨p, 0, none⟩)) := hx1.cell rfl
  have Hsz := Lib.hid hsz
  clear c1 cs0 hsz
  refine wpIn_wide_still_tail 10 (by kernel_rfl) (by kernel_rfl) ?_
  simp only [List.take_succ_cons, List.take_zero, List.drop_succ_cons, List.drop_zero]
  repeat still_step
  refine wpStill_nil ?_
  go_wp2_with fail
  refine (Bits_any (d : Nat) _).mono ?_
  rintro e w4 ⟨rfl, rfl⟩
  go_wp2_with fail
  simp only [OnlyNormal]
  have hbX : Below W.heap.size W ((W.alloc (.cells #[.int .i64 (d : Nat)] 3)).drew) := ((Below.refl _ _).alloc (Nat.le_refl _) _).drew
  have hxd : BoxN ((W.alloc (.cells #[.int .i64 (d : Nat)] 3)).drew) W.heap.size 3 #[.int .i64 (d : Nat)] := (BoxN.new W _ _).drew
  have hsX : ((W.alloc (.cells #[.int .i64 (d : Nat)] 3)).drew).heap.size = W.heap.size + 1 := by simp
  gi_wp2_with fail
  generalize (W.alloc (.cells #[.int .i64 (d : Nat)] 3)).drew = X at *
  have hy1 := hx1.all hbX
  have hy2 := hx2.all hbX
  have hy3 := hx3.all hbX
  have hsz1 : w.heap.size + 1 + 1 < W.heap.size := by rw [Hsz.out]; omega
  have hsz2 : W.heap.size < X.heap.size := by omega
  clear hsX
  have hblX := hbl.trans (hbX.mono (by omega))
  have hTX : Tab X := hT.next hblX
  clear hx1 hx2 hx3 e0 e1 e2 x1 hb1 hb2 hbX hbl hT
  generalize IntKind.i64.wrap (2 ^ f) = pw at *
  refine wp_bits1 (by decide) 9 (B := W.heap.size) (s := d) rfl (hxd.cell rfl) (by omega) hTX
    (fun pre Y => Below X.heap.size X Y ∧ Hid (∀ x, x ∈ pre → (decide (gI T x ≠ 0) && what x) = false))
    (fun cd _ Y => cd = .ret ∧ r = true ∧ BoxN Y (w.heap.size + 1 + 1) 4 #[.bool true] ∧ Below w.heap.size w Y)
    (fun _ _ _ _ hs hg hr => ⟨below_own hs.1 (Nat.le_refl _) (Nat.le_refl _) hg hr, hs.2⟩)
    (fun _ _ _ _ _ hs hg hr => ⟨hs.1, hs.2.1, hs.2.2.1.own hg (fun r e => (hr r e).2), below_own hs.2.2.2 (Nat.le_refl _) (by omega) hg hr⟩)
    ⟨Below.refl _ _, fun x hx => by cases hx⟩ ?assign ?body ?done ?stop
  case assign =>
    intro l x Y K hK
    gi_wp2
    exact hK
  case body =>
    rintro l pre x Y hx hlen' ⟨hY, hpre⟩
    have hxn : x < n := Hbit.out x hx
    have hY1 := hy1.all hY
    have hY2 := hy2.all hY
    have hY3 := hy3.all hY
    have hblY := hblX.trans (hY.mono hblX.size)
    have a1 : Y.cell? ⟨w.heap.size, 0, none⟩ = some (.pointer (some ⟨p, 0, none⟩)) := hY1.cell rfl
    have a2 : Y.cell? ⟨w.heap.size + 1, 0, none⟩ = some (.func (.func fn) #[] caps) := hY2.cell rfl
    have a3 : Y.cell? ⟨w.heap.size + 1 + 1, 0, none⟩ = some (.bool false) := hY3.cell rfl
    have f3 := hY3.free 0
    have b0 : Y.cell? ⟨p, 0, none⟩ = some (.slice (some ⟨bt, ot, none⟩) n ct) := (hblY.cell (p := ⟨p, 0, none⟩) (by omega)).trans c0
    have b1 : Y.cell? ⟨bt, ot + x, none⟩ = some (.int .i64 (gI T x)) := (hblY.cell (p := ⟨bt, ot + x, none⟩) hbt).trans (Hct.out x _ (get_gI (by rw [Hn.out]; exact hxn)))
    have HW := Lib.hid (hw Y x hblY hxn)
    have hr1 : (decide (gI T x ≠ 0) && what x) = true → r = true := fun h => by
      rw [Hot.out, List.any_eq_true]; exact ⟨x, (Hmem.out x).2 hx, h⟩
    have Hr1 := Lib.hid hr1
    have hp1 : (decide (gI T x ≠ 0) && what x) = false → ∀ y, y ∈ pre ++ [x] → (decide (gI T y ≠ 0) && what y) = false := fun h y hy => by
      rcases List.mem_append.1 hy with hy | hy
      · exact hpre.out y hy
      · obtain rfl := List.mem_singleton.1 hy; exact h
    have Hp1 := Lib.hid hp1
    clear hpre hp1 hr1
    simp only [List.setIfInBounds_toArray, List.set_cons_succ, List.set_cons_zero]
    generalize hz : gI T x = z at *
    have Hz := Lib.hid hz
    clear hz
    by_cases h0 : z = 0
    · subst h0
      gi_wp2_with fail
      exact ⟨(keepsOthers_below (Below.refl _ _)).from _, Below.refl _ _, hY, Lib.hid (Hp1.out (by simp))⟩
    · have n0 : (z != 0) = true := by simpa using h0
      cases hwx : what x with
      | true =>
        rw [hwx] at HW Hr1
        have hr := Hr1.out (by simp [h0])
        clear Hr1 Hp1
        gi_wp2_with (refine (callsIn_wide.2 HW.out).mono ?_; rintro e w' ⟨rfl, q, rfl⟩)
        exact ⟨((keepsOthers_below (below_drewN (Below.refl _ _) q)).trans (KeepsOthers.setCell _ _ _)).from _, rfl, hr, (hY3.drewN q).set 0 (.bool true), (below_drewN hblY q).setCell (by simp; omega) _⟩
      | false =>
        rw [hwx] at HW Hp1
        have Hp2 := Lib.hid (Hp1.out (by simp))
        clear Hr1 Hp1
        gi_wp2_with (refine (callsIn_wide.2 HW.out).mono ?_; rintro e w' ⟨rfl, q, rfl⟩)
        exact ⟨(keepsOthers_below (below_drewN (Below.refl _ _) q)).from _, below_drewN (Below.refl _ _) q, hY.trans (below_drewN (Below.refl _ _) q), Hp2⟩
  case done =>
    rintro D Z hD ⟨hZ, hp⟩ hK
    have hr : r = false := by
      rw [Hot.out, List.any_eq_false]
      intro x hx
      rw [hp.out x hx]; simp
    subst hr
    clear hp Hot
    have hZ3 := hy3.all hZ
    have a3 : Z.cell? ⟨w.heap.size + 1 + 1, 0, none⟩ = some (.bool false) := hZ3.cell rfl
    have f3 := hZ3.free 0
    gi_wp2_with fail
    refine leaves_marks (B := w.heap.size) [D] _ ((MarksAt.nil.cons (by omega) (by simp) hK).setCell _ _) fun w' hsc hb' _ => ?_
    have d3 : w'.cell? ⟨w.heap.size + 1 + 1, 0, none⟩ = some (.bool false) := (hsc.cell _).trans ((hZ3.set 0 (.bool false)).cell rfl)
    refine ⟨.bool false, by simp [results, Tryd.f47, go_sem, d3], rfl, ((hblX.trans (hZ.mono (by omega))).setCell (by simp; omega) _).trans hb'⟩
  case stop =>
    rintro D cd pre Z hD _ ⟨rfl, hord, b3, hblZ⟩ hK
    subst hord
    gi_wp2_with fail
    refine leaves_marks (B := w.heap.size) [D] Z (MarksAt.nil.cons (by omega) (by simp) hK) fun w' hsc hb' _ => ?_
    have d3 : w'.cell? ⟨w.heap.size + 1 + 1, 0, none⟩ = some (.bool true) := (hsc.cell _).trans (b3.cell rfl)
    refine ⟨.bool true, by simp [results, Tryd.f47, go_sem, d3], rfl, hblZ.trans hb'⟩
end
end Go.Proofs.YtodikdmmmfeddaaDoor
