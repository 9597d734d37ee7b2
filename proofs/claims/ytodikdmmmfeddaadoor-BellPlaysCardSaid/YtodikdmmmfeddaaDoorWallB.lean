/-
  Contract: the wall's Ask.
-/
import Derived.Test.YtodikdmmmfeddaaDoorWallA
namespace Go.Proofs.YtodikdmmmfeddaaDoor
open Go.RowKit
attribute [local go_sem] Oper.semAt_some
attribute [local simp, local go_sem] wide_fn
set_option maxRecDepth 100000
set_option linter.unusedVariables false

section
variable {w V : World} {base p : Nat} {T : List Int} {S : WS} {gt gs gh : Nat} {At As Ah : Option Addr} {ct cs ch : Nat}
theorem IntsAt.own {l : List Int} {w w' : World} {A : Option Addr} (h : IntsAt w A l) {row : Option Nat} (hg : w.grownBy w' row) (hr : ∀ r, row = some r → ∃ o : Obj, w.heap[r]? = some o ∧ o.isCells = false) : IntsAt w' A l := fun hl => by
  obtain ⟨b, off, hA, hc⟩ := h hl
  exact ⟨b, off, hA, fun j x hx => cell_keep (hc j x hx) hg hr⟩
theorem WallAt.grow (h : WallAt w base p T S At As Ah ct cs ch) {row : Option Nat} (hg : w.grownBy V row) (hr : ∀ r, row = some r → ∃ o : Obj, w.heap[r]? = some o ∧ o.isCells = false) : WallAt V base p T S At As Ah ct cs ch :=
  ⟨h.bp, h.box.own hg hr, h.it.own hg hr, h.is.own hg hr, h.ih.own hg hr, fun h1 h2 => by
    obtain ⟨gt, gs, gh, e1, e2, e3, ho⟩ := h.own h1 h2
    exact ⟨gt, gs, gh, e1, e2, e3, ho.bt, ho.bs, ho.bh, ho.ot.own hg hr, ho.os.own hg hr, ho.oh.own hg hr, ho.ts, ho.th, ho.sh⟩⟩
theorem KeepsT.grow {e : TypeId} {w0 : World} (h : KeepsT e w0 w) {row : Option Nat} (hg : w.grownBy V row) (hr : ∀ r, row = some r → ∃ o : Obj, w.heap[r]? = some o ∧ o.isCells = false) : KeepsT e w0 V := fun b cs t fz hb ht => by
  have h1 := h b cs t fz hb ht
  refine (hg.block b (Array.getElem?_eq_some_iff.1 h1).1 fun eq => ?_).trans h1
  obtain ⟨o, ho, hc⟩ := hr b eq.symm
  rw [h1] at ho
  injection ho with ho
  subst ho
  cases hc
theorem Spares.grow {ok : Nat → Prop} {w0 : World} (h : Spares ok w0 w) {B : Nat} {row : Option Nat} (hg : w.grownBy V row) (hs : w0.heap.size ≤ w.heap.size) (hB : w0.heap.size ≤ B) (hr : ∀ r, row = some r → B ≤ r ∧ ∃ o : Obj, w.heap[r]? = some o ∧ o.isCells = false) : Spares ok w0 V := fun b hb hl =>
  (hg.block b (by omega) fun eq => by have := (hr b eq.symm).1; omega).trans (h b hb hl)

theorem IntsAt.belowB {l : List Int} {w w' : World} {g B : Nat} (h : IntsAt w (some ⟨g, 0, none⟩) l) (hb : Below B w w') (hg : g < B) : IntsAt w' (some ⟨g, 0, none⟩) l := fun hl => by
  obtain ⟨b, off, hA, hc⟩ := h hl
  injection hA with hA
  injection hA with e1 e2
  subst e1; subst e2
  exact ⟨_, _, rfl, fun j x hx => (hb.cell (p := ⟨g, 0 + j, none⟩) hg).trans (hc j x hx)⟩
theorem WallAt.belowB {B : Nat} (h : WallAt w base p T S (some ⟨gt, 0, none⟩) (some ⟨gs, 0, none⟩) (some ⟨gh, 0, none⟩) ct cs ch) (hb : Below B w V) (hp : p < B) (ht : gt < B) (hs : gs < B) (hh : gh < B) : WallAt V base p T S (some ⟨gt, 0, none⟩) (some ⟨gs, 0, none⟩) (some ⟨gh, 0, none⟩) ct cs ch :=
  ⟨h.bp, h.box.below hb hp, h.it.belowB hb ht, h.is.belowB hb hs, h.ih.belowB hb hh, fun h1 h2 => by
    obtain ⟨gt, gs, gh, e1, e2, e3, ho⟩ := h.own h1 h2
    cases e1; cases e2; cases e3
    exact ⟨_, _, _, rfl, rfl, rfl, ho.bt, ho.bs, ho.bh, ho.ot.below hb ht, ho.os.below hb hs, ho.oh.below hb hh, ho.ts, ho.th, ho.sh⟩⟩
theorem KeepsT.upto {e : TypeId} {w0 : World} (h : KeepsT e w0 w) (hb : Below w0.heap.size w V) : KeepsT e w0 V := fun b cs t fz hc ht => (hb.block b (Array.getElem?_eq_some_iff.1 hc).1).trans (h b cs t fz hc ht)
theorem Spares.upto {ok : Nat → Prop} {w0 : World} (h : Spares ok w0 w) (hb : Below w0.heap.size w V) : Spares ok w0 V := fun b hok hl => (hb.block b hl).trans (h b hok hl)

/-- What has been joined so far. -/
def joining (S : WS) (f : Nat) (l : List Nat) : WS := { S with Ho := S.Ho.set f (joinTo S.Ho f l) }
theorem joining_nil {S : WS} {f : Nat} (hf : f < S.Ho.length) : joining S f [] = S := by
  unfold joining joinTo
  rw [List.foldl_nil, set_row_self hf]
theorem joining_snoc {S : WS} {f x : Nat} {l : List Nat} (hf : f < S.Ho.length) : { joining S f l with Ho := (joining S f l).Ho.set f (row (joining S f l).Ho f ||| row (joining S f l).Ho x) } = joining S f (l ++ [x]) := by
  unfold joining
  simp only [List.set_set]
  rw [row_set _ _ _ _ hf, if_pos rfl, row_set _ _ _ _ hf]
  by_cases e : f = x
  · subst e
    rw [if_pos rfl, Nat.or_self, joinTo_self]
  · rw [if_neg e, joinTo_snoc]

set_option maxHeartbeats 4000000 in
theorem WAsk_write {ok : Nat → Prop} (h : WallAt w base p T S At As Ah ct cs ch) (hT : Tab w) (hI : WInv T S) (hB : base ≤ w.heap.size) (hgt : 2 < base) (hno : S.Saw ≠ [] → T ≠ [] → ∀ g, (As = some ⟨g, 0, none⟩ ∨ Ah = some ⟨g, 0, none⟩) → ¬ ok g) (u f : Nat) (t : Int) (hu : u < S.Saw.length) (hf : f < T.length) (hr : others T (row S.Saw u) f (sameT T f) = false) (hr2 : others T (row S.Saw u) f (fun _ => true) = false) :
    Calls Tryd.prog 24 #[.pointer (some ⟨p, 0, none⟩), .agg #[.int .i64 1, .int .i64 u, .int .i64 f, .int .i64 t]] w fun e w' => e = .returned .nilIface ∧ WallAt w' base p T (joining S f (bitsOf (row S.Saw u))) At As Ah ct cs ch ∧ Below base w w' ∧ KeepsT 3 w w' ∧ Spares ok w w' := by
  refine (callsIn_wide (n := 8)).1 ?_
  obtain ⟨gt, gs, gh, rfl, rfl, rfl, ho⟩ := h.own (by intro e; simp [e] at hu) (by intro e; simp [e] at hf)
  have hno := hno (by intro e; simp [e] at hu) (by intro e; simp [e] at hf)
  have nh : ¬ ok gh := hno gh (.inr rfl)
  clear hno
  have hn8 := hI.ln
  have hm8 := hI.lm
  have c0 : w.cell? ⟨p, 0, none⟩ = some (.slice (some ⟨gt, 0, none⟩) T.length ct) := h.box.cell rfl
  have c1 : w.cell? ⟨p, 1, none⟩ = some (.slice (some ⟨gs, 0, none⟩) S.Saw.length cs) := h.box.cell rfl
  have hp := h.box.lt
  have C1 := Lib.hid (fun V => Within3_is 1 0 1 true V (by simp))
  have C2 := Lib.hid (fun V => Within3_is (u : Int) 0 ((S.Saw.length : Int) - 1) true V (by simp; omega))
  have C3 := Lib.hid (fun V => Within3_is (f : Int) 0 ((T.length : Int) - 1) true V (by simp; omega))
  have hb : Below w.heap.size w ((w.alloc (.cells #[.pointer (some ⟨p, 0, none⟩)] 41)).alloc (.cells #[.int .i64 1, .int .i64 u, .int .i64 f, .int .i64 t] 31)) := ((Below.refl _ _).alloc (Nat.le_refl _) _).alloc (by simp) _
  have hx1 := (BoxN.new w 41 #[.pointer (some ⟨p, 0, none⟩)]).alloc (.cells #[.int .i64 1, .int .i64 u, .int .i64 f, .int .i64 t] 31)
  have hx2 := BoxN.new (w.alloc (.cells #[.pointer (some ⟨p, 0, none⟩)] 41)) 31 #[.int .i64 1, .int .i64 u, .int .i64 f, .int .i64 t]
  simp only [World.size_alloc] at hx2
  have hsz : ((w.alloc (.cells #[.pointer (some ⟨p, 0, none⟩)] 41)).alloc (.cells #[.int .i64 1, .int .i64 u, .int .i64 f, .int .i64 t] 31)).heap.size = w.heap.size + 1 + 1 := by simp
  generalize hWA : ((w.alloc (.cells #[.pointer (some ⟨p, 0, none⟩)] 41)).alloc (.cells #[.int .i64 1, .int .i64 u, .int .i64 f, .int .i64 t] 31)) = WA at *
  have Hsz := Lib.hid hsz
  clear hsz
  have e0 : WA.cell? ⟨p, 0, none⟩ = some (.slice (some ⟨gt, 0, none⟩) T.length ct) := (hb.cell (p := ⟨p, 0, none⟩) hp).trans c0
  have e1 : WA.cell? ⟨p, 1, none⟩ = some (.slice (some ⟨gs, 0, none⟩) S.Saw.length cs) := (hb.cell (p := ⟨p, 1, none⟩) hp).trans c1
  have x0 : WA.cell? ⟨w.heap.size, 0, none⟩ = some (.pointer (some ⟨p, 0, none⟩)) := hx1.cell rfl
  have y0 : WA.cell? ⟨w.heap.size + 1, 0, none⟩ = some (.int .i64 1) := hx2.cell rfl
  have y1 : WA.cell? ⟨w.heap.size + 1, 1, none⟩ = some (.int .i64 u) := hx2.cell rfl
  have y2 : WA.cell? ⟨w.heap.size + 1, 2, none⟩ = some (.int .i64 f) := hx2.cell rfl
  have CM := Lib.hid (fun V (hV : Below WA.heap.size WA V) => (may_any ((h.all hb).all hV) (hT.next (hb.trans (hV.mono hb.size))) hI hu hf hr).mono fun e w' ⟨he, hx⟩ => (⟨he, hV.trans (hx.mono hV.size)⟩ : _ ∧ Below WA.heap.size WA w'))
  have CO := Lib.hid (fun V (hV : Below WA.heap.size WA V) => (others_any ((h.all hb).all hV) (hT.next (hb.trans (hV.mono hb.size))) hI hu hf (fun _ => true) 48 #[] (enters_of Tryd.func48 (by kernel_rfl) rfl) (fun V i _ _ => always_any _)).mono fun e w' ⟨he, hx⟩ => (⟨he, hV.trans (hx.mono hV.size)⟩ : _ ∧ Below WA.heap.size WA w'))
  rw [hr2] at CO
  have hfh : f < S.Ho.length := by rw [hI.lh]; exact hf
  have cs0 := ho.os.row_ hu
  have ls := ho.os.lt
  have hs256 := hI.saw_lt u
  have hs8 := hI.bs u
  have Hbh := Lib.hid (fun l => joinTo_lt hI.bh f l)
  have Hbh2 := Lib.hid hI.bh
  have Hlh := Lib.hid hI.lh
  have HT := Lib.hid hT
  have H0 := Lib.hid h
  clear h hT hI hr c0 c1 hr2
  have Hs : Hid (row S.Saw u = row S.Saw u) := Lib.hid rfl
  generalize hse : row S.Saw u = s at *
  have hgw : 2 < w.heap.size := HT.out.lt
  clear hse Hs
  refine callsIn_of_wp_marks Tryd.func24 rfl trivial ?_ rfl
  simp only [Tryd.ntmps24, List.size_toArray, List.length_cons, List.length_nil, Nat.reduceAdd, Nat.reduceSub, Array.replicate_succ, Array.replicate_zero, List.push_toArray, List.append_toArray, List.nil_append, List.cons_append]
  gi_wp2_with fail
  gi_quiet (first | (with_reducible exact callsIn_wide.2 (quiet1 (C1.out _))) | (with_reducible exact callsIn_wide.2 (quiet1 (C2.out _))) | (with_reducible exact callsIn_wide.2 (quiet1 (C3.out _))))
  gi_wp2_with fail
  refine (callsIn_wide.2 (CM.out _ (belowD (Below.refl _ _) nq))).mono ?_
  rintro e w1 ⟨rfl, hb1⟩
  have x0' := (hb1.cell (p := ⟨w.heap.size, 0, none⟩) hx1.lt).trans x0
  have y0' := (hb1.cell (p := ⟨w.heap.size + 1, 0, none⟩) hx2.lt).trans y0
  have y1' := (hb1.cell (p := ⟨w.heap.size + 1, 1, none⟩) hx2.lt).trans y1
  have y2' := (hb1.cell (p := ⟨w.heap.size + 1, 2, none⟩) hx2.lt).trans y2
  clear e0 x0 y0 y1 y2 CM
  gi_wp2_with fail
  refine (callsIn_wide.2 (CO.out _ hb1)).mono ?_
  rintro e w2 ⟨rfl, hb2⟩
  have hbl := hb.trans (hb2.mono hb.size)
  have e1' := (hb2.cell (p := ⟨p, 1, none⟩) (by have := Hsz.out; show p < _; omega)).trans e1
  have hX1 := hx1.all hb2
  have hX2 := hx2.all hb2
  have x0 : w2.cell? ⟨w.heap.size, 0, none⟩ = some (.pointer (some ⟨p, 0, none⟩)) := hX1.cell rfl
  have y1 : w2.cell? ⟨w.heap.size + 1, 1, none⟩ = some (.int .i64 u) := hX2.cell rfl
  have s0' := (hbl.cell (p := ⟨gs, u, none⟩) ls).trans cs0
  clear x0' y0' y1' y2' hb1 hx1 hx2 e1 CO cs0
  gi_wp2_with fail
  refine wpIn_wide_still_tail 8 (by kernel_rfl) (by kernel_rfl) ?_
  simp only [List.take_succ_cons, List.take_zero, List.drop_succ_cons, List.drop_zero]
  repeat still_step
  refine wpStill_nil ?_
  go_wp2_with fail
  refine (Bits_any (s : Nat) _).mono ?_
  rintro e w4 ⟨rfl, rfl⟩
  go_wp2_with fail
  simp only [OnlyNormal]
  have hbX : Below w2.heap.size w2 (w2.alloc (.cells #[.int .i64 (s : Nat)] 3)).drew := ((Below.refl _ _).alloc (Nat.le_refl _) _).drew
  have hxd : BoxN (w2.alloc (.cells #[.int .i64 (s : Nat)] 3)).drew w2.heap.size 3 #[.int .i64 (s : Nat)] := (BoxN.new w2 _ _).drew
  gi_wp2_with fail
  have hblX := hbl.trans (hbX.mono hbl.size)
  have hQ1 := hX1.all hbX
  have hQ2 := hX2.all hbX
  have hTX : Tab (w2.alloc (.cells #[.int .i64 (s : Nat)] 3)).drew := HT.out.next hblX
  have hszX : w.heap.size + 1 < w2.heap.size ∧ w2.heap.size < (w2.alloc (.cells #[.int .i64 (s : Nat)] 3)).drew.heap.size := ⟨hX2.lt, hxd.lt⟩
  generalize (w2.alloc (.cells #[.int .i64 (s : Nat)] 3)).drew = X at *
  clear hX1 hX2 e1' x0 y1 s0' hbX hb2
  refine wp_bits1 (by decide) 5 (B := w2.heap.size) (s := s) rfl (hxd.cell rfl) (by omega) hTX
    (fun pre Y => WallAt Y base p T (joining S f pre) (some ⟨gt, 0, none⟩) (some ⟨gs, 0, none⟩) (some ⟨gh, 0, none⟩) ct cs ch ∧ Below base w Y ∧ KeepsT 3 w Y ∧ Spares ok w Y ∧ BoxN Y w.heap.size 41 #[.pointer (some ⟨p, 0, none⟩)] ∧ BoxN Y (w.heap.size + 1) 31 #[.int .i64 1, .int .i64 u, .int .i64 f, .int .i64 t])
    (fun _ _ _ => False)
    (fun _ Y Y' _ hs hg hr => ⟨hs.1.grow hg (fun r e => (hr r e).2), below_own hs.2.1 hB (by omega) hg hr, hs.2.2.1.grow hg (fun r e => (hr r e).2), hs.2.2.2.1.grow hg (Nat.le_of_lt hs.2.2.2.2.1.lt) (by omega) hr, hs.2.2.2.2.1.own hg (fun r e => (hr r e).2), hs.2.2.2.2.2.own hg (fun r e => (hr r e).2)⟩)
    (fun _ _ _ _ _ hs _ _ => hs)
    ⟨by rw [joining_nil hfh]; exact H0.out.all hblX, hblX.mono hB, KeepsT.of_below hblX, Spares.of_below hblX, hQ1, hQ2⟩ ?assign ?body ?done ?stop
  case assign =>
    intro l x Y K hK
    gi_wp2
    exact hK
  case body =>
    clear hQ1 hQ2 hxd hTX
    rintro l pre x Y hx hlen' ⟨hYw, hbY, hkY, hsY, hY1, hY2⟩
    have hxn : x < T.length := bit_below hs8 hx
    have hxh : x < (joining S f pre).Ho.length := by show x < (S.Ho.set _ _).length; rw [List.length_set, Hlh.out]; exact hxn
    have hfh' : f < (joining S f pre).Ho.length := by show f < (S.Ho.set _ _).length; rw [List.length_set]; exact hfh
    obtain ⟨gt', gs', gh', e1, e2, e3, hoY⟩ := hYw.own (by intro e; have e : S.Saw = [] := e; simp [e] at hu) (by intro e; simp [e] at hf)
    cases e1; cases e2; cases e3
    have hl8 : (joining S f pre).Ho.length = T.length := by show (S.Ho.set _ _).length = _; rw [List.length_set, Hlh.out]
    have a1 : Y.cell? ⟨w.heap.size, 0, none⟩ = some (.pointer (some ⟨p, 0, none⟩)) := hY1.cell rfl
    have a2 : Y.cell? ⟨w.heap.size + 1, 2, none⟩ = some (.int .i64 f) := hY2.cell rfl
    have b2 : Y.cell? ⟨p, 2, none⟩ = some (.slice (some ⟨gh, 0, none⟩) (joining S f pre).Ho.length ch) := hYw.box.cell rfl
    have d1 := hoY.oh.row_ hfh'
    have d2 := hoY.oh.row_ hxh
    have d3 := hoY.oh.free f
    have hlg := hoY.oh.lt
    have hJ : Bd T.length (joining S f pre).Ho := Hbh2.out.set _ _ (Hbh.out pre)
    have r1 := lt256 (hJ f) hn8
    have r2 := lt256 (hJ x) hn8
    have hbo := bits_or_nat (row (joining S f pre).Ho f) (row (joining S f pre).Ho x) (by omega) (by omega)
    have HS := Lib.hid (fun (V : World) (hV : Below Y.heap.size Y V) (z : Int) (hz : z = ((row (joining S f pre).Ho f ||| row (joining S f pre).Ho x : Nat) : Int)) => hYw.setH nh hoY (Nat.le_trans hB hbY.size) hV hfh' hz)
    rw [joining_snoc hfh] at HS
    rw [hl8] at b2
    have hxb : w.heap.size < Y.heap.size := hY1.lt
    have hxb2 : w.heap.size + 1 < Y.heap.size := hY2.lt
    have hgh : gh < w.heap.size := ho.oh.lt
    clear hYw hoY hJ hxh hfh' hl8 hx
    generalize row (joining S f pre).Ho f ||| row (joining S f pre).Ho x = v at *
    generalize row (joining S f pre).Ho f = va at *
    generalize row (joining S f pre).Ho x = vb at *
    simp only [List.setIfInBounds_toArray, List.set_cons_succ, List.set_cons_zero]
    gi_wp2_with fail
    refine wpIn_round_still_tail 17 (by kernel_rfl) (by kernel_rfl) (by kernel_rfl) ?_
    simp only [List.take_succ_cons, List.take_zero, List.drop_succ_cons, List.drop_zero]
    repeat still_step
    refine wpStill_nil ?_
    go_wp2_with fail
    simp only [OnlyNormal]
    gi_wp2_with fail
    obtain ⟨q1, q2, q3, q4⟩ := HS.out Y.drew ((Below.refl _ _).drew) _ rfl
    rw [World.setCell_drew] at q1 q2 q3 q4
    exact ⟨((KeepsOthers.setCell _ _ _).trans (KeepsOthers.drew _)).from _, ((Below.refl _ _).setCell (p := ⟨gh, f, none⟩) (by show _ ≤ gh; have := ho.bh; omega) _).drew, q1, hbY.trans (q2.mono (Nat.le_refl _)), hkY.trans q3, hsY.trans q4 (Nat.le_of_lt hxb), (hY1.other (a := ⟨gh, f, none⟩) (by show w.heap.size ≠ gh; omega) _).drew, (hY2.other (a := ⟨gh, f, none⟩) (by show w.heap.size + 1 ≠ gh; omega) _).drew⟩
  case done =>
    rintro D Z hD ⟨hZw, hbZ, hkZ, hsZ, hZ1, hZ2⟩ hK
    gi_wp2_with fail
    refine leaves_marks (B := w.heap.size) [D] _ (MarksAt.nil.cons (by omega) (by simp) hK) fun w' hsc hb' _ => ?_
    refine ⟨_, results_tmp rfl _ _ _, rfl, ?_⟩
    exact ⟨hZw.belowB hb' hp ho.ot.lt ho.os.lt ho.oh.lt, hbZ.trans (hb'.mono hB), hkZ.upto hb', hsZ.upto hb'⟩
  case stop =>
    intros
    rename_i h _
    exact h.elim

theorem WAsk_any2 {ok : Nat → Prop} (h : WallAt w base p T S At As Ah ct cs ch) (hT : Tab w) (hI : WInv T S) (hB : base ≤ w.heap.size) (hgt : 2 < base) (hno : S.Saw ≠ [] → T ≠ [] → ∀ g, (As = some ⟨g, 0, none⟩ ∨ Ah = some ⟨g, 0, none⟩) → ¬ ok g) (k u f t : Int) :
    Calls Tryd.prog 24 #[.pointer (some ⟨p, 0, none⟩), .agg #[.int .i64 k, .int .i64 u, .int .i64 f, .int .i64 t]] w fun e w' => e = .returned (errVal (wAsk T S k u f).2) ∧ WallAt w' base p T (wAsk T S k u f).1 At As Ah ct cs ch ∧ Below base w w' ∧ KeepsT 3 w w' ∧ Spares ok w w' := by
  have hn8 := hI.ln
  have hm8 := hI.lm
  by_cases hok : wOk T S k u f
  · obtain ⟨hk, ⟨hu0, hu1⟩, hf0, hf1⟩ := id hok
    unfold wAsk
    rw [if_pos hok]
    obtain ⟨un, rfl⟩ := Int.eq_ofNat_of_zero_le hu0
    obtain ⟨fn, rfl⟩ := Int.eq_ofNat_of_zero_le hf0
    simp only [Int.toNat_natCast]
    have hu : un < S.Saw.length := by omega
    have hf : fn < T.length := by omega
    cases hr : others T (row S.Saw un) fn (sameT T fn) with
    | true =>
      rw [if_pos rfl]
      exact (WAsk_denied h hT hI hB k hk un fn t hu hf hr).mono fun e w' ⟨he, hb⟩ => ⟨he, h.all hb, hb.mono hB, KeepsT.of_below hb, Spares.of_below hb⟩
    | false =>
      rw [if_neg (by decide)]
      by_cases hk0 : k = 0
      · rw [if_pos hk0]
        subst hk0
        exact WAsk_read h hT hI hB hno un fn t hu hf hr
      · rw [if_neg hk0]
        obtain rfl : k = 1 := by omega
        cases hr2 : others T (row S.Saw un) fn (fun _ => true) with
        | true =>
          rw [if_pos rfl]
          exact (WAsk_denied2 h hT hI hB un fn t hu hf hr hr2).mono fun e w' ⟨he, hb⟩ => ⟨he, h.all hb, hb.mono hB, KeepsT.of_below hb, Spares.of_below hb⟩
        | false =>
          rw [if_neg (by decide)]
          exact WAsk_write h hT hI hB hgt hno un fn t hu hf hr hr2
  · unfold wAsk
    rw [if_neg hok]
    exact (WAsk_range h (by omega) (by omega) k u f t hok).mono fun e w' ⟨he, hb⟩ => ⟨he, h.all hb, hb.mono hB, KeepsT.of_below hb, Spares.of_below hb⟩
theorem WAsk_any (h : WallAt w base p T S At As Ah ct cs ch) (hT : Tab w) (hI : WInv T S) (hB : base ≤ w.heap.size) (hgt : 2 < base) (k u f t : Int) :
    Calls Tryd.prog 24 #[.pointer (some ⟨p, 0, none⟩), .agg #[.int .i64 k, .int .i64 u, .int .i64 f, .int .i64 t]] w fun e w' => e = .returned (errVal (wAsk T S k u f).2) ∧ WallAt w' base p T (wAsk T S k u f).1 At As Ah ct cs ch ∧ Below base w w' ∧ KeepsT 3 w w' :=
  (WAsk_any2 (ok := fun _ => False) h hT hI hB hgt (fun _ _ _ _ => id) k u f t).mono fun _ _ ⟨h1, h2, h3, h4, _⟩ => ⟨h1, h2, h3, h4⟩
end
end Go.Proofs.YtodikdmmmfeddaaDoor
