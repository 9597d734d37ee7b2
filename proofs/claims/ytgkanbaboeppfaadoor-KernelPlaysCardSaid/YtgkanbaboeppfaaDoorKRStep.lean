/-
  Contract: quietwingref5.Step.
-/
import Derived.Test.YtgkanbaboeppfaaDoorKRNew
import Derived.Test.YtgkanbaboeppfaaDoorKernT
import Derived.Deep.QuietTactic
import Derived.BigQuiet
import Derived.Deep.RegionHeld3
import Derived.Deep.CutRange
namespace Go.Proofs.YtgkanbaboeppfaaDoor
open Go.RowKit
set_option maxRecDepth 100000
set_option linter.unusedVariables false

abbrev rkZ : Array Value := #[.slice none 0 0, .slice none 0 0, .slice none 0 0, .int .i64 0, .slice none 0 0, .slice none 0 0]
theorem partNums_at (x : KPlace) : (partNums x)[0]? = some (x.pc : Int) ∧ (partNums x)[1]? = some (x.regs 0) ∧ (partNums x)[2]? = some (x.regs 1) ∧ (partNums x)[3]? = some (x.regs 2) ∧ (partNums x)[4]? = some (x.regs 3) := ⟨rfl, rfl, rfl, rfl, rfl⟩
theorem partNums_reg (x : KPlace) {r : Nat} (h : r < 4) : (partNums x)[1 + r]? = some (x.regs r) := by
  have : r = 0 ∨ r = 1 ∨ r = 2 ∨ r = 3 := by omega
  rcases this with rfl | rfl | rfl | rfl <;> rfl

/-- Blocks but for the two boxes. -/
abbrev okB (ok : Nat → Prop) (B : Nat) : Nat → Prop := fun b => (b < B ∨ B + 2 ≤ b) ∧ ok b
/-- What Step hands back. -/
def RStepPost (ok : Nat → Prop) (Ap Ao At : Option Addr) (cp co ct n q m t : Nat) (s : KState) (w : World) (e : Ending) (w' : World) : Prop :=
  (∃ Pp Hp cP cH, e = .returned (.agg (rkV Ap Ao At cp co ct n q m t Pp Hp cP cH)) ∧ RKIn ok w' Pp Hp cP cH n q s) ∧ Below w.heap.size w w'
section
variable {w V : World} {Pp Hp : Option Addr} {cP cH n q : Nat} {s : KState}
theorem RKIn.mono {ok ok' : Nat → Prop} (h : RKIn ok w Pp Hp cP cH n q s) (ho : ∀ b, b < w.heap.size → ok b → ok' b) : RKIn ok' w Pp Hp cP cH n q s := ⟨h.parts.mono ho, h.held.mono ho, h.capP, h.capH, h.capsP.mono ho, h.capsH.mono ho⟩
theorem RKIn.keep {ok : Nat → Prop} (h : RKIn ok w Pp Hp cP cH n q s) (hk : ∀ b, b < w.heap.size → ok b → V.heap[b]? = w.heap[b]?) : RKIn ok V Pp Hp cP cH n q s := ⟨h.parts.keep hk, h.held.keep hk, h.capP, h.capH, h.capsP.keep hk, h.capsH.keep hk⟩
theorem RKAt.any (h : RKAt w Pp Hp cP cH n q s) : RKIn anyB w Pp Hp cP cH n q s := ⟨h.parts, h.held, h.capP, h.capH, h.capsP, h.capsH⟩
theorem RKIn.inn {ok : Nat → Prop} (h : RKIn ok w Pp Hp cP cH n q s) : RKIn (okB ok w.heap.size) w Pp Hp cP cH n q s := h.mono fun b hb ho => ⟨.inl hb, ho⟩
theorem RKIn.below {ok : Nat → Prop} (h : RKIn ok w Pp Hp cP cH n q s) (hb : Below w.heap.size w V) : RKIn ok V Pp Hp cP cH n q s := ⟨h.parts.below hb, h.held.below hb, h.capP, h.capH, h.capsP.below hb, h.capsH.below hb⟩
theorem RKIn.set {ok : Nat → Prop} {B k : Nat} (h : RKIn (okB ok B) w Pp Hp cP cH n q s) {b : Nat} (hb : b = B ∨ b = B + 1) (v : Value) : RKIn (okB ok B) (w.setCell ⟨b, k, none⟩ v) Pp Hp cP cH n q s :=
  ⟨h.parts.keep fun g _ hg => Below.heap_setCell w ⟨b, k, none⟩ v g (by have hg : g < B ∨ B + 2 ≤ g := hg.1; show g ≠ b; omega), h.held.keep fun g _ hg => Below.heap_setCell w ⟨b, k, none⟩ v g (by have hg : g < B ∨ B + 2 ≤ g := hg.1; show g ≠ b; omega), h.capP, h.capH, h.capsP.keep fun g _ hg => Below.heap_setCell w ⟨b, k, none⟩ v g (by have hg : g < B ∨ B + 2 ≤ g := hg.1; show g ≠ b; omega), h.capsH.keep fun g _ hg => Below.heap_setCell w ⟨b, k, none⟩ v g (by have hg : g < B ∨ B + 2 ≤ g := hg.1; show g ≠ b; omega)⟩
theorem RKIn.at_ {ok : Nat → Prop} (h : RKIn ok w Pp Hp cP cH n q s) : RKAt w Pp Hp cP cH n q s := ⟨h.parts.any, h.held.any, h.capP, h.capH, h.capsP.any, h.capsH.any⟩
/-- The result is stored in its own box: nothing else turns. -/
theorem rk_end {ok : Nat → Prop} {Ap Ao At : Option Addr} {cp co ct m t : Nat} (h : RKIn (okB ok w.heap.size) V Pp Hp cP cH n q s) (hb : Below w.heap.size w V) (v0 v1 v2 v3 v4 v5 : Value) :
    RStepPost ok Ap Ao At cp co ct n q m t s w (.returned (.agg (rkV Ap Ao At cp co ct n q m t Pp Hp cP cH))) ((((((V.setCell ⟨w.heap.size + 1, 0, none⟩ v0).setCell ⟨w.heap.size + 1, 1, none⟩ v1).setCell ⟨w.heap.size + 1, 2, none⟩ v2).setCell ⟨w.heap.size + 1, 3, none⟩ v3).setCell ⟨w.heap.size + 1, 4, none⟩ v4).setCell ⟨w.heap.size + 1, 5, none⟩ v5) := by
  have hB : w.heap.size ≤ w.heap.size + 1 := Nat.le_succ _
  refine ⟨⟨Pp, Hp, cP, cH, rfl, ?_⟩, belowSet (belowSet (belowSet (belowSet (belowSet (belowSet hb hB _) hB _) hB _) hB _) hB _) hB _⟩
  exact ((((((h.set (.inr rfl) v0).set (.inr rfl) v1).set (.inr rfl) v2).set (.inr rfl) v3).set (.inr rfl) v4).set (.inr rfl) v5).mono fun b _ hb => hb.2
end

theorem partRows_set (s : KState) {n p : Nat} (x : KPlace) (hp : p < n) : partRows (s.place p x) n = (partRows s n).set p (partNums x) := by
  refine List.ext_getElem? fun i => ?_
  rw [List.getElem?_set]
  unfold partRows
  simp only [List.getElem?_map, List.length_map, List.length_range]
  by_cases e : p = i
  · subst e
    rw [if_pos rfl, if_pos hp, List.getElem?_range hp]
    show some (partNums (upd s.parts p x p)) = _
    rw [upd_same]
  · rw [if_neg e]
    rcases Nat.lt_or_ge i n with h | h
    · rw [List.getElem?_range h]
      show some (partNums (upd s.parts p x i)) = some _
      rw [upd_other _ _ (fun e' => e e'.symm)]
    · rw [List.getElem?_eq_none (by simpa using h)]; rfl
theorem heldRows_set (s : KState) {q b : Nat} (l : List Int) (hb : b < q) : heldRows (s.port b l) q = (heldRows s q).set b l := by
  refine List.ext_getElem? fun i => ?_
  rw [List.getElem?_set]
  unfold heldRows
  simp only [List.getElem?_map, List.length_map, List.length_range]
  by_cases e : b = i
  · subst e
    rw [if_pos rfl, if_pos hb, List.getElem?_range hb]
    show some (upd s.held b l b) = _
    rw [upd_same]
  · rw [if_neg e]
    rcases Nat.lt_or_ge i q with h | h
    · rw [List.getElem?_range h]
      show some (upd s.held b l i) = some _
      rw [upd_other _ _ (fun e' => e e'.symm)]
    · rw [List.getElem?_eq_none (by simpa using h)]; rfl
theorem partNums_upd (x : KPlace) (pc' : Nat) (v : Int) {a : Nat} (h : a < 4) : partNums ⟨pc', upd x.regs a v, x.shown⟩ = ((partNums x).set (1 + a) v).set 0 (pc' : Int) := by
  have : a = 0 ∨ a = 1 ∨ a = 2 ∨ a = 3 := by omega
  rcases this with rfl | rfl | rfl | rfl <;> simp [partNums, upd]
theorem partNums_show (x : KPlace) (pc' : Nat) (v : Int) : partNums ⟨pc', x.regs, x.shown ++ [v]⟩ = (partNums x ++ [v]).set 0 (pc' : Int) := by simp [partNums]
theorem okB_from {ok : Nat → Prop} {B V : Nat} (ho : ∀ b, B ≤ b → ok b) (h : B + 2 ≤ V) : ∀ b, V ≤ b → okB ok B b := fun b hb => ⟨.inr (by omega), ho b (by omega)⟩

theorem own_intsIn {ok : Nat → Prop} {w : World} {base n c : Nat} {A : Option Addr} {l : List Int} {x : Int} (h : w.ownsRow base 3 1 (.slice A n c) n ([] ++ l.map (.int .i64) ++ [.int .i64 x])) (hb : ∀ b, base ≤ b → ok b) : IntsIn ok w A (l ++ [x]) := fun hne => by
  rw [List.nil_append, show [Value.int .i64 x] = [x].map (.int .i64) from rfl, ← List.map_append] at h
  obtain ⟨b, off, e, hc⟩ := (CellsAt.own h).ints hne
  have hbb : base ≤ b := by
    rcases h.2 with ⟨_, h0⟩ | ⟨g, cap, cur, hv, hg, _⟩
    · have := h.1; rw [h0] at this; simp at this
    · injection hv with hv
      rw [e] at hv
      injection hv with hv
      injection hv with hv
      omega
  exact ⟨b, off, e, hb b hbb, hc⟩

set_option maxHeartbeats 8000000 in
theorem RStep_any {ok : Nat → Prop} {Ap Ao At Pp Hp : Option Addr} {L : List (List Int)} {P T : List Int} {q t cp co ct cP cH u : Nat} {s : KState} {w : World} (h : RKIn ok w Pp Hp cP cH L.length q s) (hnw : ∀ b, w.heap.size ≤ b → ok b) (hL : RowsIn anyB 3 w Ap L) (hT : IntsIn anyB w At T) (hs : SysOk L P q T) (hI : KInv s u) (hu : u ≤ 100000) (ht : t < 300) {p : Nat} (hp : nI T (t % T.length) = (p : Int)) (hpl : p < L.length) :
    Calls Tryd.prog 16 #[.agg (rkV Ap Ao At cp co ct L.length q T.length t Pp Hp cP cH)] w fun e w' => RStepPost ok Ap Ao At cp co ct L.length q T.length (t + 1) (kstep (sysOps L) p s) w e w' := by
  have hk0 := (BoxN.new w 44 (rkV Ap Ao At cp co ct L.length q T.length t Pp Hp cP cH)).alloc (.cells rkZ 44)
  have hz0 := boxAt (w.alloc (.cells (rkV Ap Ao At cp co ct L.length q T.length t Pp Hp cP cH) 44)) 44 rkZ (w.heap.size + 1) (by simp)
  have hb0 := ((Below.refl w.heap.size w).alloc (Nat.le_refl _) (.cells (rkV Ap Ao At cp co ct L.length q T.length t Pp Hp cP cH) 44)).alloc (by simp) (.cells rkZ 44)
  have ht12 := hs.turns
  have hlen0 : T.length ≠ 0 := by omega
  have hm2 : t % T.length < T.length := Nat.mod_lt _ (by omega)
  have hrem : (t : Int).tmod T.length = ((t % T.length : Nat) : Int) := by rw [Int.tmod_eq_emod_of_nonneg (by omega)]; rfl
  obtain ⟨bt, ot, rfl, ct0⟩ := turn_cell hT (i := t % T.length) hm2
  rw [hp] at ct0
  obtain ⟨bp, op, Ai, ni, ci, rfl, cp0, hli, -, hin⟩ := h.parts.get (i := p) (by rw [partRows_len]; exact hpl)
  rw [partRows_get s hpl] at hli hin
  obtain ⟨bl, ol, Al, nl, cl, rfl, cl0, hll, -, hil⟩ := hL.get (i := p) hpl
  obtain ⟨bm, om, -, rfl, -, -⟩ := hin.at_.at_ (k := 0) (by rw [partNums_len]; omega)
  have hsh := (hI.shown p).1
  have hpc := hI.pc p
  have hni : ni = 5 + (s.parts p).shown.length := by rw [partNums_len] at hli; omega
  have hn0 : (0 : Int) < (ni : Int) := by omega
  have hn5 : 5 ≤ ni ∧ ni ≤ 100005 := by omega
  have Hni := Lib.hid hni
  clear hni
  have hcm : ∀ (j : Nat) (x : Int), (partNums (s.parts p))[j]? = some x → w.cell? ⟨bm, om + j, none⟩ = some (.int .i64 x) := fun j x hj => by
    obtain ⟨b', o', e', hc⟩ := hin.at_ (by rintro e; rw [e] at hj; simp at hj)
    injection e' with e'
    injection e' with e1 e2
    subst e1; subst e2
    exact hc j x hj
  have cm0 := hcm 0 _ (partNums_at _).1
  have Hme := Lib.hid hin.at_
  have Hcm := Lib.hid hcm
  have HS := Lib.hid hs
  have HI := Lib.hid hI
  have HNW := Lib.hid hnw
  clear hnw
  have Hh := Lib.hid h.inn
  have HhV := Lib.hid (fun V (hV : Below w.heap.size w V) => h.inn.below hV)
  have Hil := Lib.hid hil
  have Hturn := Lib.hid hp
  have Hc := Lib.hid (fun V (hV : Below w.heap.size w V) => (⟨(hV.cell (p := ⟨bt, ot + t % T.length, none⟩) (block_lt ct0)).trans ct0, (hV.cell (p := ⟨bp, op + p, none⟩) (block_lt cp0)).trans cp0, (hV.cell (p := ⟨bl, ol + p, none⟩) (block_lt cl0)).trans cl0, (hV.cell (p := ⟨bm, om + 0, none⟩) (block_lt cm0)).trans cm0⟩ : V.cell? ⟨bt, ot + t % T.length, none⟩ = some (.int .i64 p) ∧ V.cell? ⟨bp, op + p, none⟩ = some (.slice (some ⟨bm, om, none⟩) ni ci) ∧ V.cell? ⟨bl, ol + p, none⟩ = some (.slice Al nl cl) ∧ V.cell? ⟨bm, om, none⟩ = some (.int .i64 (s.parts p).pc)))
  clear hcm hs hI h hil hp hin
  generalize hr : t % T.length = r at *
  have Hr := Lib.hid hr
  clear hr
  go_enter Tryd.func16, Tryd.ntmps16
  go_wp2_with fail
  generalize (w.alloc (.cells (rkV (some ⟨bl, ol, none⟩) Ao (some ⟨bt, ot, none⟩) cp co ct L.length q T.length t (some ⟨bp, op, none⟩) Hp cP cH) 44)).alloc (.cells rkZ 44) = w1 at *
  clear ct0 cp0 cl0 cm0
  have k2 := hk0.cell (k := 2) rfl
  have k3 := hk0.cell (k := 3) rfl
  obtain ⟨ct1, -, -, -⟩ := Hc.out w1 hb0
  go_quiet (fail)
  have hk2 := hk0.drewN nq
  have hz2 := hz0.drewN nq
  have hb2 := belowD hb0 nq
  clear k2 k3 ct1 hk0 hz0 hb0
  generalize w1.drewN nq = w2 at *
  have k3 := hk2.cell (k := 3) rfl
  have f3 := hk2.free 3
  have hk3 := hk2.set 3 (.int .i64 ((t : Int) + 1))
  have hb3 := belowSet hb2 (b := w.heap.size) (k := 3) (Nat.le_refl _) (.int .i64 ((t : Int) + 1))
  have hz3 := hz2.other (a := ⟨w.heap.size, 3, none⟩) (by show w.heap.size + 1 ≠ w.heap.size; omega) (.int .i64 ((t : Int) + 1))
  have k4 := hk3.cell (k := 4) rfl
  obtain ⟨-, cp1, -, -⟩ := Hc.out _ hb3
  go_wp2_with fail
  have hk3' : BoxN (w2.setCell ⟨w.heap.size, 3, none⟩ (.int .i64 ((t : Int) + 1))) w.heap.size 44 #[.slice (some ⟨bl, ol, none⟩) L.length cp, .slice Ao q co, .slice (some ⟨bt, ot, none⟩) T.length ct, .int .i64 ((t : Int) + 1), .slice (some ⟨bp, op, none⟩) L.length cP, .slice Hp q cH] := hk3
  clear hk2 hz2 hb2 k3 f3 k4 cp1 hk3
  generalize w2.setCell ⟨w.heap.size, 3, none⟩ (.int .i64 ((t : Int) + 1)) = w3 at *
  obtain ⟨-, -, cl1, cm1⟩ := Hc.out _ hb3
  have k0 := hk3'.cell (k := 0) rfl
  have hget : (sysOps L p)[(s.parts p).pc]? = if (s.parts p).pc < nl then some (opAt (L.getD p []) (s.parts p).pc) else none := opsOf_get hll _
  have Hget := Lib.hid hget
  clear hget
  obtain ⟨pc, hpce⟩ : ∃ pc, (s.parts p).pc = pc := ⟨_, rfl⟩
  have Hpc := Lib.hid hpce
  rw [hpce] at cm1 hpc Hget
  clear hpce
  by_cases hlt : pc < nl
  · have hd : decide ((pc : Int) ≥ nl) = false := decide_eq_false (by omega)
    have hd2 : decide (nl ≤ pc) = false := decide_eq_false (by omega)
    have hn1 : 0 < ni := by omega
    have hpn : (pc : Int) < (nl : Int) := by omega
    have hpn0 : (0 : Int) ≤ (pc : Int) := by omega
    have hpl0 : (p : Int) < (L.length : Int) := by omega
    obtain ⟨bo, oo, rfl, og0, og1, og2⟩ := op_cells Hil.out hll hlt
    have hcode := HS.out.op p hpl pc (by rw [hll, Nat.mul_div_cancel _ (by decide)]; exact hlt)
    obtain ⟨hok, -, -⟩ := opCode_ok hcode
    have Hst0 := Lib.hid (show kstep (sysOps L) p s = kdo (opAt (L.getD p []) pc) p s by unfold kstep; rw [Hpc.out, Hget.out, if_pos hlt])
    obtain ⟨o, ho⟩ : ∃ o, opAt (L.getD p []) pc = o := ⟨_, rfl⟩
    have e0 : nI (L.getD p []) (3 * pc) = o.k := by rw [← ho]; rfl
    have e1 : nI (L.getD p []) (3 * pc + 1) = o.a := by rw [← ho]; rfl
    have e2 : nI (L.getD p []) (3 * pc + 2) = o.b := by rw [← ho]; rfl
    rw [e0] at og0
    rw [e1] at og1
    rw [e2] at og2
    rw [ho] at hok Hst0
    have Hog := Lib.hid (fun V (hV : Below w.heap.size w V) => (⟨(hV.cell (p := ⟨bo, oo + pc * 3, none⟩) (block_lt og0)).trans og0, (hV.cell (p := ⟨bo, oo + pc * 3 + 1, none⟩) (block_lt og1)).trans og1, (hV.cell (p := ⟨bo, oo + pc * 3 + 2, none⟩) (block_lt og2)).trans og2⟩ : V.cell? ⟨bo, oo + pc * 3, none⟩ = some (.int .i64 o.k) ∧ V.cell? ⟨bo, oo + pc * 3 + 1, none⟩ = some (.int .i64 o.a) ∧ V.cell? ⟨bo, oo + pc * 3 + 2, none⟩ = some (.int .i64 o.b)))
    clear e0 e1 e2 ho og0 og1 og2
    go_quiet (fail)
    have hk4 := hk3'.drewN nq
    have hz4 := hz3.drewN nq
    have hb4 := belowD hb3 nq
    clear cl1 cm1 k0 hk3' hz3 hb3
    generalize w3.drewN nq = w4 at *
    have HK4 := Lib.hid hk4
    have HSv := Lib.hid (fun V (hV : Below w4.heap.size w4 V) => (⟨(hk4.all hV).cell (k := 0) rfl, (Hc.out V (hb4.trans (hV.mono hb4.size))).2.2, Hog.out V (hb4.trans (hV.mono hb4.size))⟩ : V.cell? ⟨w.heap.size, 0, none⟩ = some (.slice (some ⟨bl, ol, none⟩) L.length cp) ∧ (V.cell? ⟨bl, ol + p, none⟩ = some (.slice (some ⟨bo, oo, none⟩) nl cl) ∧ V.cell? ⟨bm, om, none⟩ = some (.int .i64 (s.parts p).pc)) ∧ V.cell? ⟨bo, oo + pc * 3, none⟩ = some (.int .i64 o.k) ∧ V.cell? ⟨bo, oo + pc * 3 + 1, none⟩ = some (.int .i64 o.a) ∧ V.cell? ⟨bo, oo + pc * 3 + 2, none⟩ = some (.int .i64 o.b)))
    rw [Hpc.out] at HSv
    go_wp2_with fail
    go_cut [5] from 42 to 52 (fun x5 wx => ∃ G, x5 = .pointer (some ⟨G, 0, none⟩) ∧ w4.heap.size ≤ G ∧ BoxN wx G 72 #[.int .i64 o.k, .int .i64 o.a, .int .i64 o.b] ∧ Below w4.heap.size w4 wx)
    case first =>
      go_region_held3 (fun V => V.cell? ⟨w.heap.size, 0, none⟩ = some (.slice (some ⟨bl, ol, none⟩) L.length cp) ∧ (V.cell? ⟨bl, ol + p, none⟩ = some (.slice (some ⟨bo, oo, none⟩) nl cl) ∧ V.cell? ⟨bm, om, none⟩ = some (.int .i64 pc)) ∧ V.cell? ⟨bo, oo + pc * 3, none⟩ = some (.int .i64 o.k) ∧ V.cell? ⟨bo, oo + pc * 3 + 1, none⟩ = some (.int .i64 o.a) ∧ V.cell? ⟨bo, oo + pc * 3 + 2, none⟩ = some (.int .i64 o.b))
        ((refine HSv.out _ ?_; repeat (first | assumption | exact Below.refl _ _ | refine Below.setCell ?_ (by first | assumption | exact Nat.le_refl _ | (simp; done) | (simp; omega)) _ | refine Below.alloc ?_ (by first | exact Nat.le_refl _ | assumption) _ | refine Below.drew ?_)))
        (fail)
      all_goals (go_wp2_with fail; go_meet)
      all_goals exact ⟨_, rfl, Nat.le_refl _, BoxN.new _ _ _, ((Below.refl w4.heap.size w4).alloc (Nat.le_refl _) _).drew⟩
    case rest =>
      obtain ⟨G, rfl, hG, hx, hbc⟩ := hcut
      have hk5 := hk4.all hbc
      have hz5 := hz4.all hbc
      have hb5 := hb4.trans (hbc.mono hb4.size)
      have hkl := hk4.lt
      have hzl := hz4.lt
      clear HK4 HSv hk4 hz4 hb4 hbc hd hd2 hpn hpn0
      obtain ⟨k, oa, ob⟩ := o
      dsimp only at *
      obtain ⟨-, -, -, cm5⟩ := Hc.out _ hb5
      rw [Hpc.out] at cm5
      have HR := HI.out.regs p
      have hgG : w.heap.size ≠ G := by omega
      rcases opOk_cases hok with ⟨e, r1, r2⟩ | ⟨e, r1, r2⟩ | ⟨e, r1, r2⟩ | ⟨e, r1, r2⟩ | ⟨e, r1, r2⟩ | ⟨e, r1⟩
      · subst e
        obtain ⟨a, rfl⟩ := Int.eq_ofNat_of_zero_le r1.1
        obtain ⟨b, rfl⟩ := Int.eq_ofNat_of_zero_le r2.1
        have ha4 : a < 4 := by omega
        have g0 := hx.cell (k := 0) rfl
        have g1 := hx.cell (k := 1) rfl
        have g2 := hx.cell (k := 2) rfl
        have Hst : Hid (kstep (sysOps L) p s = s.place p ⟨pc + 1, upd (s.parts p).regs a b, (s.parts p).shown⟩) := Lib.hid (by rw [Hst0.out]; unfold kdo; dsimp only; rw [if_pos rfl, Int.toNat_natCast, Hpc.out])
        have hlm : (partNums (s.parts p)).length = ni := by rw [Hni.out, partNums_len]
        have hmeV : IntsAt wc (some ⟨bm, om, none⟩) (partNums (s.parts p)) := Hme.out.below hb5
        have CP := Lib.hid (show Calls Tryd.prog 30 #[.slice (some ⟨bm, om, none⟩) ni ci, .int .i64 (1 + (a : Int)), .int .i64 b] wc _ from put_any (i := 1 + a) hmeV hlm (by omega) (by omega))
        go_wp2_with fail
        with_reducible refine CP.out.mono ?_
        rintro e w6 ⟨⟨A6, c6, rfl, hcc6, i6⟩, hb6⟩
        have hk6 := hk5.all hb6
        have hz6 := hz5.all hb6
        have hbw6 := hb5.trans (hb6.mono hb5.size)
        have hx6 := hx.all hb6
        have g60 := hx6.cell (k := 0) rfl
        have g61 := hx6.cell (k := 1) rfl
        have g62 := hx6.cell (k := 2) rfl
        have hme6 := i6.at_
        have hlm6 : ((partNums (s.parts p)).set (1 + a) (b : Int)).length = ni := by rw [List.length_set]; exact hlm
        clear CP g0 g1 g2
        have hzl2 := hz6.lt
        have hkl2 := hk6.lt
        have C1 := Lib.hid (fun V (hV : Below w6.heap.size w6 V) => show Calls Tryd.prog 30 #[.slice A6 ni c6, .int .i64 0, .int .i64 ((pc : Int) + 1)] V fun e w' => (∃ A' c', e = .returned (.slice A' ni c') ∧ ni ≤ c' ∧ IntsIn (okB ok w.heap.size) w' A' (((partNums (s.parts p)).set (1 + a) (b : Int)).set 0 ((pc : Int) + 1))) ∧ Below V.heap.size V w' ∧ Below w6.heap.size w6 w' from (put_any (i := 0) (hme6.below hV) hlm6 (by omega) (by omega)).mono fun e w' ⟨⟨A', c', he, hcc, hi⟩, hb⟩ => ⟨⟨A', c', he, hcc, hi.mono fun b _ hb => okB_from HNW.out (by have := hV.size; omega) b hb⟩, hb, hV.trans (hb.mono hV.size)⟩)
        have C2 := Lib.hid (fun V A1 c1 (hV : Below w6.heap.size w6 V) (hi : IntsIn (okB ok w.heap.size) V A1 (((partNums (s.parts p)).set (1 + a) (b : Int)).set 0 ((pc : Int) + 1))) (hc1 : ni ≤ c1) => show Calls Tryd.prog 31 #[.slice (some ⟨bp, op, none⟩) L.length cP, .int .i64 p, .slice A1 ni c1] V fun e w' => (∃ A' c', e = .returned (.slice A' L.length c') ∧ L.length ≤ c' ∧ RowsIn (okB ok w.heap.size) 1 w' A' ((partRows (s) L.length).set p (((partNums (s.parts p)).set (1 + a) (b : Int)).set 0 ((pc : Int) + 1))) ∧ CapsIn (okB ok w.heap.size) w' A' L.length) ∧ Below V.heap.size V w' ∧ Below w6.heap.size w6 w' from (row_any ((HhV.out w6 hbw6).below hV).parts (okB_from HNW.out (by have := hV.size; omega)) (partRows_len _ _) hpl (HhV.out w6 hbw6).capP (by have := HS.out.parts; omega) ⟨by rw [List.length_set, hlm6, Nat.mul_one], by unfold maxLen; omega, hi⟩ ((HhV.out w6 hbw6).below hV).capsP hc1).mono fun e w' ⟨he, hb⟩ => ⟨he, hb, hV.trans (hb.mono hV.size)⟩)
        have k4 := hk6.cell (k := 4) rfl
        have f4 := hk6.free 4
        go_wp2_with fail
        go_region_law ((first | (go_simp; go_at_call 30; with_reducible refine (C1.out _ (by repeat (first | assumption | exact Below.refl _ _ | refine Below.alloc ?_ (by first | exact Nat.le_refl _ | assumption) _ | refine Below.drew ?_))).mono ?_; rintro e wa ⟨⟨A1, c1, rfl, hcc1, i1⟩, hba, hbaV⟩; have ka := (hk6.all hbaV).cell (k := 4) rfl) | (go_simp; go_at_call 31; with_reducible refine (C2.out _ A1 c1 (by repeat (first | assumption | exact Below.refl _ _ | refine Below.alloc ?_ (by first | exact Nat.le_refl _ | assumption) _ | refine Below.drew ?_)) i1 hcc1).mono ?_; rintro e wb ⟨⟨A2, c2, rfl, hc2, i2, hcs2⟩, hbb, hbbV⟩; have kb := (hk6.all hbbV).cell (k := 4) rfl; have fb := (hk6.all hbbV).free 4)))
        all_goals
          have hkF := (hk6.all hbbV).set 4 (.slice A2 L.length c2)
          have hzF := (hz6.all hbbV).other (a := ⟨w.heap.size, 4, none⟩) (by show w.heap.size + 1 ≠ w.heap.size; omega) (.slice A2 L.length c2)
          have hbF := belowSet (hbw6.trans (hbbV.mono hbw6.size)) (b := w.heap.size) (k := 4) (Nat.le_refl _) (.slice A2 L.length c2)
          have i3 : RowsIn (okB ok w.heap.size) 1 wb A2 (partRows (s.place p ⟨pc + 1, upd (s.parts p).regs a b, (s.parts p).shown⟩) L.length) := by
            rw [partRows_set _ _ hpl, show partNums _ = (((partNums (s.parts p)).set (1 + a) (b : Int))).set 0 ((pc : Int) + 1) from partNums_upd _ _ _ ha4]
            exact i2
          have rkF := RKIn.set (k := 4) (⟨i3, (HhV.out w6 hbw6).held.below hbbV, hc2, (HhV.out w6 hbw6).capH, hcs2, (HhV.out w6 hbw6).capsH.below hbbV⟩ : RKIn (okB ok w.heap.size) wb A2 Hp c2 cH L.length q (s.place p ⟨pc + 1, upd (s.parts p).regs a b, (s.parts p).shown⟩)) (.inl rfl) (.slice A2 L.length c2)
          clear C1 C2 k4 f4 ka kb fb
          generalize wb.setCell ⟨w.heap.size, 4, none⟩ (.slice A2 L.length c2) = w7 at *
          have y0 := hkF.cell (k := 0) rfl
          have y1 := hkF.cell (k := 1) rfl
          have y2 := hkF.cell (k := 2) rfl
          have y3 := hkF.cell (k := 3) rfl
          have y4 := hkF.cell (k := 4) rfl
          have y5 := hkF.cell (k := 5) rfl
          have z0 := hzF.cell (k := 0) rfl
          have z1 := hzF.cell (k := 1) rfl
          have z2 := hzF.cell (k := 2) rfl
          have z3 := hzF.cell (k := 3) rfl
          have z4 := hzF.cell (k := 4) rfl
          have z5 := hzF.cell (k := 5) rfl
          have fz0 := hzF.free 0
          have fz1 := hzF.free 1
          have fz2 := hzF.free 2
          have fz3 := hzF.free 3
          have fz4 := hzF.free 4
          have fz5 := hzF.free 5
          go_wp2_with fail
          have hR := (((((hzF.set 0 (.slice (some ⟨bl, ol, none⟩) L.length cp)).set 1 (.slice Ao q co)).set 2 (.slice (some ⟨bt, ot, none⟩) T.length ct)).set 3 (.int .i64 ((t : Int) + 1))).set 4 (.slice A2 L.length c2)).set 5 (.slice Hp q cH)
          refine bodyPost_ret (results_row1 rfl _ _ (w.heap.size + 1) 44 (rkV (some ⟨bl, ol, none⟩) Ao (some ⟨bt, ot, none⟩) cp co ct L.length q T.length (t + 1) A2 Hp c2 cH) (0, 0) _ rfl hR Tryd.underlying44 rfl (by kernel_rfl)) rfl ?_
          rw [Hst.out]
          exact rk_end (rkF) hbF _ _ _ _ _ _
      · subst e
        obtain ⟨a, rfl⟩ := Int.eq_ofNat_of_zero_le r1.1
        obtain ⟨b, rfl⟩ := Int.eq_ofNat_of_zero_le r2.1
        have ha4 : a < 4 := by omega
        have hb4 : b < 4 := by omega
        obtain ⟨ra, hra⟩ := Int.eq_ofNat_of_zero_le (HR a).1
        obtain ⟨rb, hrb⟩ := Int.eq_ofNat_of_zero_le (HR b).1
        have la := (HR a).2
        have lb := (HR b).2
        rw [hra] at la
        rw [hrb] at lb
        have cra := (hb5.cell (p := ⟨bm, om + (1 + a), none⟩) (block_lt (Hcm.out (1 + a) _ (partNums_reg _ ha4)))).trans (Hcm.out (1 + a) _ (partNums_reg _ ha4))
        have crb := (hb5.cell (p := ⟨bm, om + (1 + b), none⟩) (block_lt (Hcm.out (1 + b) _ (partNums_reg _ hb4)))).trans (Hcm.out (1 + b) _ (partNums_reg _ hb4))
        rw [hra] at cra
        rw [hrb] at crb
        have g0 := hx.cell (k := 0) rfl
        have g1 := hx.cell (k := 1) rfl
        have g2 := hx.cell (k := 2) rfl
        have Hst : Hid (kstep (sysOps L) p s = s.place p ⟨pc + 1, upd (s.parts p).regs a (((ra + rb) % 1000000 : Nat) : Int), (s.parts p).shown⟩) := Lib.hid (by
          rw [Hst0.out]; unfold kdo; dsimp only
          rw [if_neg (by decide), if_pos rfl, Int.toNat_natCast, Int.toNat_natCast, Hpc.out, hra, hrb]
          rw [show (((ra + rb) % 1000000 : Nat) : Int) = ((ra : Int) + rb) % 1000000 by omega])
        have Hra := Lib.hid hra
        have Hrb := Lib.hid hrb
        clear hra hrb
        have hlm : (partNums (s.parts p)).length = ni := by rw [Hni.out, partNums_len]
        have hmeV : IntsAt wc (some ⟨bm, om, none⟩) (partNums (s.parts p)) := Hme.out.below hb5
        obtain ⟨rs, hrs⟩ : ∃ rs, (ra + rb) % 1000000 = rs := ⟨_, rfl⟩
        rw [hrs] at Hst
        have CP := Lib.hid (fun V (hV : Below wc.heap.size wc V) => show Calls Tryd.prog 30 #[.slice (some ⟨bm, om, none⟩) ni ci, .int .i64 (1 + (a : Int)), .int .i64 rs] V (fun e w' => (∃ A' c', e = .returned (.slice A' ni c') ∧ ni ≤ c' ∧ IntsIn (fun b => V.heap.size ≤ b) w' A' ((partNums (s.parts p)).set (1 + a) (rs : Int))) ∧ Below V.heap.size V w') from put_any (i := 1 + a) (hmeV.below hV) hlm (by omega) (by omega))
        have b1 : (0 : Int) ≤ 1 + (a : Int) := by omega
        have b2 : 1 + (a : Int) < (ni : Int) := by omega
        have b3 : (0 : Int) ≤ 1 + (b : Int) := by omega
        have b4 : 1 + (b : Int) < (ni : Int) := by omega
        have b5 : (1 + (a : Int)).toNat = 1 + a := by omega
        have b6 : (1 + (b : Int)).toNat = 1 + b := by omega
        have b7 : IntKind.i64.wrap (1 + (a : Int)) = 1 + (a : Int) := by rw [IntKind.wrap_i64]; omega
        have b8 : IntKind.i64.wrap (1 + (b : Int)) = 1 + (b : Int) := by rw [IntKind.wrap_i64]; omega
        have b9 : IntKind.i64.wrap ((ra : Int) + (rb : Int)) = (ra : Int) + (rb : Int) := by rw [IntKind.wrap_i64]; omega
        have b10 : ((ra : Int) + (rb : Int)).tmod 1000000 = (rs : Int) := by rw [Int.tmod_eq_emod_of_nonneg (by omega)]; omega
        have b11 : IntKind.i64.wrap (rs : Int) = (rs : Int) := by rw [IntKind.wrap_i64]; omega
        clear hrs
        go_wp2_with fail
        refine wp_still_tailD 18 (by kernel_rfl) (by kernel_rfl) ?_
        simp only [List.take_succ_cons, List.take_zero, List.drop_succ_cons, List.drop_zero]
        repeat still_step
        refine wpStill_nil ?_
        clear b1 b2 b3 b4 b5 b6 b7 b8 b9 b10 b11
        go_wp2_with (with_reducible refine (CP.out _ (belowD (Below.refl _ _) 1)).mono ?_; rintro e w6 ⟨⟨A6, c6, rfl, hcc6, i6⟩, hb6⟩; have hx6 := (hx.drewN 1).all hb6; have g60 := hx6.cell (k := 0) rfl; have g61 := hx6.cell (k := 1) rfl; have g62 := hx6.cell (k := 2) rfl)
        have hk6 := (hk5.drewN 1).all hb6
        have hz6 := (hz5.drewN 1).all hb6
        have hbw6 := hb5.trans (((belowD (Below.refl wc.heap.size wc) 1).trans hb6).mono hb5.size)
        have hme6 := i6.at_
        have hlm6 : ((partNums (s.parts p)).set (1 + a) (rs : Int)).length = ni := by rw [List.length_set]; exact hlm
        clear CP g0 g1 g2 cra crb
        have hzl2 := hz6.lt
        have hkl2 := hk6.lt
        have C1 := Lib.hid (fun V (hV : Below w6.heap.size w6 V) => show Calls Tryd.prog 30 #[.slice A6 ni c6, .int .i64 0, .int .i64 ((pc : Int) + 1)] V fun e w' => (∃ A' c', e = .returned (.slice A' ni c') ∧ ni ≤ c' ∧ IntsIn (okB ok w.heap.size) w' A' (((partNums (s.parts p)).set (1 + a) (rs : Int)).set 0 ((pc : Int) + 1))) ∧ Below V.heap.size V w' ∧ Below w6.heap.size w6 w' from (put_any (i := 0) (hme6.below hV) hlm6 (by omega) (by omega)).mono fun e w' ⟨⟨A', c', he, hcc, hi⟩, hb⟩ => ⟨⟨A', c', he, hcc, hi.mono fun b _ hb => okB_from HNW.out (by have := hV.size; omega) b hb⟩, hb, hV.trans (hb.mono hV.size)⟩)
        have C2 := Lib.hid (fun V A1 c1 (hV : Below w6.heap.size w6 V) (hi : IntsIn (okB ok w.heap.size) V A1 (((partNums (s.parts p)).set (1 + a) (rs : Int)).set 0 ((pc : Int) + 1))) (hc1 : ni ≤ c1) => show Calls Tryd.prog 31 #[.slice (some ⟨bp, op, none⟩) L.length cP, .int .i64 p, .slice A1 ni c1] V fun e w' => (∃ A' c', e = .returned (.slice A' L.length c') ∧ L.length ≤ c' ∧ RowsIn (okB ok w.heap.size) 1 w' A' ((partRows (s) L.length).set p (((partNums (s.parts p)).set (1 + a) (rs : Int)).set 0 ((pc : Int) + 1))) ∧ CapsIn (okB ok w.heap.size) w' A' L.length) ∧ Below V.heap.size V w' ∧ Below w6.heap.size w6 w' from (row_any ((HhV.out w6 hbw6).below hV).parts (okB_from HNW.out (by have := hV.size; omega)) (partRows_len _ _) hpl (HhV.out w6 hbw6).capP (by have := HS.out.parts; omega) ⟨by rw [List.length_set, hlm6, Nat.mul_one], by unfold maxLen; omega, hi⟩ ((HhV.out w6 hbw6).below hV).capsP hc1).mono fun e w' ⟨he, hb⟩ => ⟨he, hb, hV.trans (hb.mono hV.size)⟩)
        have k4 := hk6.cell (k := 4) rfl
        have f4 := hk6.free 4
        go_wp2_with fail
        go_region_law ((first | (go_simp; go_at_call 30; with_reducible refine (C1.out _ (by repeat (first | assumption | exact Below.refl _ _ | refine Below.alloc ?_ (by first | exact Nat.le_refl _ | assumption) _ | refine Below.drew ?_))).mono ?_; rintro e wa ⟨⟨A1, c1, rfl, hcc1, i1⟩, hba, hbaV⟩; have ka := (hk6.all hbaV).cell (k := 4) rfl) | (go_simp; go_at_call 31; with_reducible refine (C2.out _ A1 c1 (by repeat (first | assumption | exact Below.refl _ _ | refine Below.alloc ?_ (by first | exact Nat.le_refl _ | assumption) _ | refine Below.drew ?_)) i1 hcc1).mono ?_; rintro e wb ⟨⟨A2, c2, rfl, hc2, i2, hcs2⟩, hbb, hbbV⟩; have kb := (hk6.all hbbV).cell (k := 4) rfl; have fb := (hk6.all hbbV).free 4)))
        all_goals
          have hkF := (hk6.all hbbV).set 4 (.slice A2 L.length c2)
          have hzF := (hz6.all hbbV).other (a := ⟨w.heap.size, 4, none⟩) (by show w.heap.size + 1 ≠ w.heap.size; omega) (.slice A2 L.length c2)
          have hbF := belowSet (hbw6.trans (hbbV.mono hbw6.size)) (b := w.heap.size) (k := 4) (Nat.le_refl _) (.slice A2 L.length c2)
          have i3 : RowsIn (okB ok w.heap.size) 1 wb A2 (partRows (s.place p ⟨pc + 1, upd (s.parts p).regs a (rs : Int), (s.parts p).shown⟩) L.length) := by
            rw [partRows_set _ _ hpl, show partNums _ = (((partNums (s.parts p)).set (1 + a) (rs : Int))).set 0 ((pc : Int) + 1) from partNums_upd _ _ _ ha4]
            exact i2
          have rkF := RKIn.set (k := 4) (⟨i3, (HhV.out w6 hbw6).held.below hbbV, hc2, (HhV.out w6 hbw6).capH, hcs2, (HhV.out w6 hbw6).capsH.below hbbV⟩ : RKIn (okB ok w.heap.size) wb A2 Hp c2 cH L.length q (s.place p ⟨pc + 1, upd (s.parts p).regs a (rs : Int), (s.parts p).shown⟩)) (.inl rfl) (.slice A2 L.length c2)
          clear C1 C2 k4 f4 ka kb fb
          generalize wb.setCell ⟨w.heap.size, 4, none⟩ (.slice A2 L.length c2) = w7 at *
          have y0 := hkF.cell (k := 0) rfl
          have y1 := hkF.cell (k := 1) rfl
          have y2 := hkF.cell (k := 2) rfl
          have y3 := hkF.cell (k := 3) rfl
          have y4 := hkF.cell (k := 4) rfl
          have y5 := hkF.cell (k := 5) rfl
          have z0 := hzF.cell (k := 0) rfl
          have z1 := hzF.cell (k := 1) rfl
          have z2 := hzF.cell (k := 2) rfl
          have z3 := hzF.cell (k := 3) rfl
          have z4 := hzF.cell (k := 4) rfl
          have z5 := hzF.cell (k := 5) rfl
          have fz0 := hzF.free 0
          have fz1 := hzF.free 1
          have fz2 := hzF.free 2
          have fz3 := hzF.free 3
          have fz4 := hzF.free 4
          have fz5 := hzF.free 5
          go_wp2_with fail
          have hR := (((((hzF.set 0 (.slice (some ⟨bl, ol, none⟩) L.length cp)).set 1 (.slice Ao q co)).set 2 (.slice (some ⟨bt, ot, none⟩) T.length ct)).set 3 (.int .i64 ((t : Int) + 1))).set 4 (.slice A2 L.length c2)).set 5 (.slice Hp q cH)
          refine bodyPost_ret (results_row1 rfl _ _ (w.heap.size + 1) 44 (rkV (some ⟨bl, ol, none⟩) Ao (some ⟨bt, ot, none⟩) cp co ct L.length q T.length (t + 1) A2 Hp c2 cH) (0, 0) _ rfl hR Tryd.underlying44 rfl (by kernel_rfl)) rfl ?_
          rw [Hst.out]
          exact rk_end (rkF) hbF _ _ _ _ _ _
      · subst e
        obtain ⟨a, rfl⟩ := Int.eq_ofNat_of_zero_le r1.1
        obtain ⟨b, rfl⟩ := Int.eq_ofNat_of_zero_le r2.1
        have ha4 : a < 4 := by omega
        obtain ⟨bh, oh, Ah, nh, ch, rfl, ch0, hlh, -, hih⟩ := (HhV.out wc hb5).held.get (i := b) (by rw [heldRows_len]; omega)
        rw [heldRows_get s (by omega)] at hlh hih
        obtain ⟨bh', oh', Ah', nh', ch', eh1, -, eh2, hcap⟩ := (HhV.out wc hb5).capsH b (by omega)
        injection eh1 with eh1
        injection eh1 with eh1 eh3
        subst eh1; subst eh3
        rw [ch0] at eh2
        injection eh2 with eh2
        injection eh2 with eh4 eh5 eh6
        subst eh4; subst eh5; subst eh6
        have hbq : (b : Int) < (q : Int) := by omega
        have g0 := hx.cell (k := 0) rfl
        have g1 := hx.cell (k := 1) rfl
        have g2 := hx.cell (k := 2) rfl
        have k5 := hk5.cell (k := 5) rfl
        have hnl : (s.held b).length = nh := by omega
        have hb0 : (0 : Int) ≤ (b : Int) := by omega
        by_cases hfull : nh < 4
        · have ra4 := partNums_reg (s.parts p) ha4
          have cra := (hb5.cell (p := ⟨bm, om + (1 + a), none⟩) (block_lt (Hcm.out (1 + a) _ ra4))).trans (Hcm.out (1 + a) _ ra4)
          obtain ⟨ra, hra⟩ : ∃ ra, (s.parts p).regs a = ra := ⟨_, rfl⟩
          have Hst : Hid (kstep (sysOps L) p s = (s.port b (s.held b ++ [ra])).place p ⟨pc + 1, (s.parts p).regs, (s.parts p).shown⟩) := Lib.hid (by rw [Hst0.out]; unfold kdo; dsimp only; rw [if_neg (by decide), if_neg (by decide), if_pos rfl, Int.toNat_natCast, Int.toNat_natCast, if_pos (by omega), Hpc.out, hra])
          rw [hra] at cra
          have dn : decide ((nh : Int) < 4) = true := decide_eq_true (by omega)
          have dn2 : decide (nh < 4) = true := decide_eq_true (by omega)
          have hcl := (hih.at_).cells
          have Hnl := Lib.hid hnl
          have hown0 : wc.ownsRow wc.heap.size 3 1 (.slice none 0 0) 0 [] := World.ownsRow_nil _ _ _ _
          have b7 : IntKind.i64.wrap (1 + (a : Int)) = 1 + (a : Int) := by rw [IntKind.wrap_i64]; omega
          clear hnl hlh hih hra ra4
          go_wp2_with (at_builtin; refine wpList_join rfl _ _ rfl eInts rfl hown0 Ah nh ch ((s.held b).map (.int .i64)) rfl hcl (by rw [List.length_map]; exact Hnl.out) (fun u hu => by obtain ⟨x, _, rfl⟩ := List.mem_map.1 hu; rfl) (by omega) (by omega) (Nat.le_refl _) ?_; intro A3 q3 c3 w6 Hq3 hown3 hbl3; obtain rfl : q3 = nh := (by have := Hq3.out; omega); have hb6 := hbl3 wc (Below.refl _ _))
          have hk6 := hk5.all hb6
          have hx6 := hx.all hb6
          have hz6 := hz5.all hb6
          have k65 := hk6.cell (k := 5) rfl
          have g61 := hx6.cell (k := 1) rfl
          have g62 := hx6.cell (k := 2) rfl
          have cra6 := (hb6.cell (p := ⟨bm, om + (1 + a), none⟩) (block_lt cra)).trans cra
          have Hs6 := Lib.hid hb6.size
          have b5 : (0 : Int) ≤ 1 + (a : Int) := by omega
          have b6 : 1 + (a : Int) < (ni : Int) := by omega
          have b8 : (1 + (a : Int)).toNat = 1 + a := by omega
          have HOK := Lib.hid (okB_from HNW.out (B := w.heap.size) (V := wc.heap.size) (by have := hz5.lt; omega))
          have CR := Lib.hid (fun V A1 c1 (hV : Below wc.heap.size wc V) (hi : IntsIn (okB ok w.heap.size) V A1 (s.held b ++ [ra])) (hc1 : q3 + 1 ≤ c1) => show Calls Tryd.prog 31 #[.slice (some ⟨bh, oh, none⟩) q cH, .int .i64 b, .slice A1 (q3 + 1) c1] V (fun e w' => (∃ A' c', e = .returned (.slice A' q c') ∧ q ≤ c' ∧ RowsIn (okB ok w.heap.size) 1 w' A' ((heldRows s q).set b (s.held b ++ [ra])) ∧ CapsIn (okB ok w.heap.size) w' A' q) ∧ Below V.heap.size V w' ∧ Below wc.heap.size wc w') from (row_any ((HhV.out wc hb5).below hV).held (okB_from HNW.out (by have := hz5.lt; have := hV.size; omega)) (heldRows_len _ _) (by omega) (HhV.out wc hb5).capH (by have := HS.out.few; omega) ⟨by rw [List.length_append]; have := Hnl.out; simp; omega, by unfold maxLen; omega, hi⟩ ((HhV.out wc hb5).below hV).capsH hc1).mono fun e w' ⟨he, hb⟩ => ⟨he, hb, hV.trans (hb.mono hV.size)⟩)
          have HSv := Lib.hid (fun V (hV : Below wc.heap.size wc V) => (⟨(hx.all hV).cell (k := 2) rfl, (hx.all hV).cell (k := 1) rfl, (hV.cell (p := ⟨bm, om + (1 + a), none⟩) (block_lt cra)).trans cra⟩ : V.cell? ⟨G, 2, none⟩ = some (.int .i64 b) ∧ V.cell? ⟨G, 1, none⟩ = some (.int .i64 a) ∧ V.cell? ⟨bm, om + (1 + a), none⟩ = some (.int .i64 ra)))
          have HbmG : Hid (bm ≠ w.heap.size) := Lib.hid (Nat.ne_of_lt (block_lt (Hcm.out (1 + a) _ (partNums_reg _ ha4))))
          have HSs := Lib.hid (fun V v (hV : Below wc.heap.size wc V) => (⟨((hx.all hV).other (a := ⟨w.heap.size, 5, none⟩) (by show G ≠ w.heap.size; exact fun e => hgG e.symm) v).cell (k := 2) rfl, ((hx.all hV).other (a := ⟨w.heap.size, 5, none⟩) (by show G ≠ w.heap.size; exact fun e => hgG e.symm) v).cell (k := 1) rfl, (World.cell?_of_block (Below.heap_setCell V ⟨w.heap.size, 5, none⟩ v bm HbmG.out)).trans (HSv.out V hV).2.2⟩ : (V.setCell ⟨w.heap.size, 5, none⟩ v).cell? ⟨G, 2, none⟩ = some (.int .i64 b) ∧ (V.setCell ⟨w.heap.size, 5, none⟩ v).cell? ⟨G, 1, none⟩ = some (.int .i64 a) ∧ (V.setCell ⟨w.heap.size, 5, none⟩ v).cell? ⟨bm, om + (1 + a), none⟩ = some (.int .i64 ra)))
          have hown6 : ((w6.alloc (.cells #[.int .i64 ra] 3)).drew).ownsRow wc.heap.size 3 1 (.slice A3 q3 c3) q3 ([] ++ (s.held b).map (.int .i64)) := ownsRow_below hown3 (B := w6.heap.size) (((Below.refl _ _).alloc (Nat.le_refl _) _).drew) (Nat.le_refl _)
          have hbA : Below wc.heap.size wc ((w6.alloc (.cells #[.int .i64 ra] 3)).drew) := (hb6.alloc Hs6.out _).drew
          have k6A : (w6.alloc (.cells #[.int .i64 ra] 3)).cell? ⟨w.heap.size, 5, none⟩ = some (.slice (some ⟨bh, oh, none⟩) q cH) := (hk6.alloc _).cell (k := 5) rfl
          have HsA := Lib.hid hbA.size
          have HQ40 : Hid (q3 < 2 ^ 40) := Lib.hid (by omega)
          clear hown0 hcl k5 g0 g1 g2 g61 g62 ch0 cra cra6 hbl3 hfull hown3
          go_cut [] from 110 to 124 (fun wx => ∃ wb A8 c8, wx = wb.setCell ⟨w.heap.size, 5, none⟩ (.slice A8 q c8) ∧ q ≤ c8 ∧ RowsIn (okB ok w.heap.size) 1 wb A8 ((heldRows s q).set b (s.held b ++ [ra])) ∧ CapsIn (okB ok w.heap.size) wb A8 q ∧ Below wc.heap.size wc wb)
          case first =>
            obtain ⟨g62, g61, cra6⟩ := HSv.out _ hb6
            obtain ⟨gA2, gA1, craA⟩ := HSv.out _ (hb6.alloc Hs6.out (.cells #[.int .i64 ra] 3))
            go_region_law ((first
                | (refine step_push_one eInts (by decide) (by rfl) _ _ (by rfl) (by rfl) hown6 w6.heap.size (.int .i64 ra) rfl (by rfl) (cell_of_row _ _ 0 _ _ _ (heap_alloc_new _ _)) HQ40.out HsA.out ?_; intro A4 c4 w7 hown7 hgr7 hbl7; have hb7 := hbl7 _ hbA; have k7 := (hk5.all hb7).cell (k := 5) rfl; obtain ⟨g72, g71, cra7⟩ := HSv.out _ hb7)
                | (go_simp; go_at_call 31; with_reducible refine (CR.out _ A4 c4 hb7 (own_intsIn hown7 HOK.out) (ownsRow_cap hown7)).mono ?_; rintro e wb ⟨⟨A8, c8, rfl, hc8, i8, hs8⟩, hbb, hbbV⟩; have kb := (hk5.all hbbV).cell (k := 5) rfl; have fb := (hk5.all hbbV).free 5)
                | fail))
            all_goals (go_wp2_with fail; go_meet)
            all_goals exact ⟨_, _, _, rfl, hc8, i8, hs8, hbbV⟩
          case rest =>
            obtain ⟨wb, A8, c8, rfl, hc8, i8, hs8, hbbV⟩ := hcut
            have hbwd := hb5.trans (hbbV.mono hb5.size)
            have hkd := hk5.all hbbV
            have hzd := hz5.all hbbV
            have hxd := hx.all hbbV
            have hk9 := hkd.set 5 (.slice A8 q c8)
            have hz9 := hzd.other (a := ⟨w.heap.size, 5, none⟩) (by show w.heap.size + 1 ≠ w.heap.size; omega) (.slice A8 q c8)
            have hx9 := hxd.other (a := ⟨w.heap.size, 5, none⟩) (by show G ≠ w.heap.size; exact fun e => hgG e.symm) (.slice A8 q c8)
            have hb9 := belowSet hbwd (b := w.heap.size) (k := 5) (Nat.le_refl _) (.slice A8 q c8)
            have i9 : RowsIn (okB ok w.heap.size) 1 wb A8 (heldRows (s.port b (s.held b ++ [ra])) q) := by
              rw [heldRows_set _ _ (by omega)]
              exact i8
            have rk9 := RKIn.set (k := 5) (⟨(HhV.out wb hbwd).parts, i9, (HhV.out wb hbwd).capP, hc8, (HhV.out wb hbwd).capsP, hs8⟩ : RKIn (okB ok w.heap.size) wb (some ⟨bp, op, none⟩) A8 cP c8 L.length q (s.port b (s.held b ++ [ra]))) (.inl rfl) (.slice A8 q c8)
            have g90 := hx9.cell (k := 0) rfl
            have g91 := hx9.cell (k := 1) rfl
            have g92 := hx9.cell (k := 2) rfl
            have hme9 := Hme.out.below hb9
            have hlm : (partNums (s.parts p)).length = ni := by rw [Hni.out, partNums_len]
            clear CR HSv HSs hown6 hbA k6A HsA HOK b5 b6 b7 b8 k65
            generalize wb.setCell ⟨w.heap.size, 5, none⟩ (.slice A8 q c8) = w9 at *
            have hzl2 := hz9.lt
            have hkl2 := hk9.lt
            have C1 := Lib.hid (fun V (hV : Below w9.heap.size w9 V) => show Calls Tryd.prog 30 #[.slice (some ⟨bm, om, none⟩) ni ci, .int .i64 0, .int .i64 ((pc : Int) + 1)] V fun e w' => (∃ A' c', e = .returned (.slice A' ni c') ∧ ni ≤ c' ∧ IntsIn (okB ok w.heap.size) w' A' ((partNums (s.parts p)).set 0 ((pc : Int) + 1))) ∧ Below V.heap.size V w' ∧ Below w9.heap.size w9 w' from (put_any (i := 0) (hme9.below hV) hlm (by omega) (by omega)).mono fun e w' ⟨⟨A', c', he, hcc, hi⟩, hb⟩ => ⟨⟨A', c', he, hcc, hi.mono fun b _ hb => okB_from HNW.out (by have := hV.size; omega) b hb⟩, hb, hV.trans (hb.mono hV.size)⟩)
            have C2 := Lib.hid (fun V A1 c1 (hV : Below w9.heap.size w9 V) (hi : IntsIn (okB ok w.heap.size) V A1 ((partNums (s.parts p)).set 0 ((pc : Int) + 1))) (hc1 : ni ≤ c1) => show Calls Tryd.prog 31 #[.slice (some ⟨bp, op, none⟩) L.length cP, .int .i64 p, .slice A1 ni c1] V fun e w' => (∃ A' c', e = .returned (.slice A' L.length c') ∧ L.length ≤ c' ∧ RowsIn (okB ok w.heap.size) 1 w' A' ((partRows (s.port b (s.held b ++ [ra])) L.length).set p ((partNums (s.parts p)).set 0 ((pc : Int) + 1))) ∧ CapsIn (okB ok w.heap.size) w' A' L.length) ∧ Below V.heap.size V w' ∧ Below w9.heap.size w9 w' from (row_any ((rk9).below hV).parts (okB_from HNW.out (by have := hV.size; omega)) (partRows_len _ _) hpl (rk9).capP (by have := HS.out.parts; omega) ⟨by rw [List.length_set, hlm, Nat.mul_one], by unfold maxLen; omega, hi⟩ ((rk9).below hV).capsP hc1).mono fun e w' ⟨he, hb⟩ => ⟨he, hb, hV.trans (hb.mono hV.size)⟩)
            have k4 := hk9.cell (k := 4) rfl
            have f4 := hk9.free 4
            go_wp2_with fail
            go_region_law ((first | (go_simp; go_at_call 30; with_reducible refine (C1.out _ (by repeat (first | assumption | exact Below.refl _ _ | refine Below.alloc ?_ (by first | exact Nat.le_refl _ | assumption) _ | refine Below.drew ?_))).mono ?_; rintro e wa ⟨⟨A1, c1, rfl, hcc1, i1⟩, hba, hbaV⟩; have ka := (hk9.all hbaV).cell (k := 4) rfl) | (go_simp; go_at_call 31; with_reducible refine (C2.out _ A1 c1 (by repeat (first | assumption | exact Below.refl _ _ | refine Below.alloc ?_ (by first | exact Nat.le_refl _ | assumption) _ | refine Below.drew ?_)) i1 hcc1).mono ?_; rintro e wb ⟨⟨A2, c2, rfl, hc2, i2, hcs2⟩, hbb, hbbV⟩; have kb := (hk9.all hbbV).cell (k := 4) rfl; have fb := (hk9.all hbbV).free 4)))
            all_goals
              have hkF := (hk9.all hbbV).set 4 (.slice A2 L.length c2)
              have hzF := (hz9.all hbbV).other (a := ⟨w.heap.size, 4, none⟩) (by show w.heap.size + 1 ≠ w.heap.size; omega) (.slice A2 L.length c2)
              have hbF := belowSet (hb9.trans (hbbV.mono hb9.size)) (b := w.heap.size) (k := 4) (Nat.le_refl _) (.slice A2 L.length c2)
              have i3 : RowsIn (okB ok w.heap.size) 1 wb A2 (partRows ((s.port b (s.held b ++ [ra])).place p ⟨pc + 1, (s.parts p).regs, (s.parts p).shown⟩) L.length) := by
                rw [partRows_set _ _ hpl, show partNums _ = ((partNums (s.parts p))).set 0 ((pc : Int) + 1) from rfl]
                exact i2
              have rkF := RKIn.set (k := 4) (⟨i3, (rk9).held.below hbbV, hc2, (rk9).capH, hcs2, (rk9).capsH.below hbbV⟩ : RKIn (okB ok w.heap.size) wb A2 A8 c2 c8 L.length q ((s.port b (s.held b ++ [ra])).place p ⟨pc + 1, (s.parts p).regs, (s.parts p).shown⟩)) (.inl rfl) (.slice A2 L.length c2)
              clear C1 C2 k4 f4 ka kb fb
              generalize wb.setCell ⟨w.heap.size, 4, none⟩ (.slice A2 L.length c2) = w7 at *
              have y0 := hkF.cell (k := 0) rfl
              have y1 := hkF.cell (k := 1) rfl
              have y2 := hkF.cell (k := 2) rfl
              have y3 := hkF.cell (k := 3) rfl
              have y4 := hkF.cell (k := 4) rfl
              have y5 := hkF.cell (k := 5) rfl
              have z0 := hzF.cell (k := 0) rfl
              have z1 := hzF.cell (k := 1) rfl
              have z2 := hzF.cell (k := 2) rfl
              have z3 := hzF.cell (k := 3) rfl
              have z4 := hzF.cell (k := 4) rfl
              have z5 := hzF.cell (k := 5) rfl
              have fz0 := hzF.free 0
              have fz1 := hzF.free 1
              have fz2 := hzF.free 2
              have fz3 := hzF.free 3
              have fz4 := hzF.free 4
              have fz5 := hzF.free 5
              go_wp2_with fail
              have hR := (((((hzF.set 0 (.slice (some ⟨bl, ol, none⟩) L.length cp)).set 1 (.slice Ao q co)).set 2 (.slice (some ⟨bt, ot, none⟩) T.length ct)).set 3 (.int .i64 ((t : Int) + 1))).set 4 (.slice A2 L.length c2)).set 5 (.slice A8 q c8)
              refine bodyPost_ret (results_row1 rfl _ _ (w.heap.size + 1) 44 (rkV (some ⟨bl, ol, none⟩) Ao (some ⟨bt, ot, none⟩) cp co ct L.length q T.length (t + 1) A2 A8 c2 c8) (0, 0) _ rfl hR Tryd.underlying44 rfl (by kernel_rfl)) rfl ?_
              rw [Hst.out]
              exact rk_end (rkF) hbF _ _ _ _ _ _
        · have Hst : Hid (kstep (sysOps L) p s = s.place p ⟨pc + 1, (s.parts p).regs, (s.parts p).shown⟩) := Lib.hid (by rw [Hst0.out]; unfold kdo; dsimp only; rw [if_neg (by decide), if_neg (by decide), if_pos rfl, Int.toNat_natCast, if_neg (by omega), Hpc.out])
          have dn : decide ((nh : Int) < 4) = false := decide_eq_false (by omega)
          have dn2 : decide (nh < 4) = false := decide_eq_false (by omega)
          clear hnl hlh hih
          have hlm : (partNums (s.parts p)).length = ni := by rw [Hni.out, partNums_len]
          have hmeV : IntsAt wc (some ⟨bm, om, none⟩) (partNums (s.parts p)) := Hme.out.below hb5
          have hzl2 := hz5.lt
          have hkl2 := hk5.lt
          have C1 := Lib.hid (fun V (hV : Below wc.heap.size wc V) => show Calls Tryd.prog 30 #[.slice (some ⟨bm, om, none⟩) ni ci, .int .i64 0, .int .i64 ((pc : Int) + 1)] V fun e w' => (∃ A' c', e = .returned (.slice A' ni c') ∧ ni ≤ c' ∧ IntsIn (okB ok w.heap.size) w' A' ((partNums (s.parts p)).set 0 ((pc : Int) + 1))) ∧ Below V.heap.size V w' ∧ Below wc.heap.size wc w' from (put_any (i := 0) (hmeV.below hV) hlm (by omega) (by omega)).mono fun e w' ⟨⟨A', c', he, hcc, hi⟩, hb⟩ => ⟨⟨A', c', he, hcc, hi.mono fun b _ hb => okB_from HNW.out (by have := hV.size; omega) b hb⟩, hb, hV.trans (hb.mono hV.size)⟩)
          have C2 := Lib.hid (fun V A1 c1 (hV : Below wc.heap.size wc V) (hi : IntsIn (okB ok w.heap.size) V A1 ((partNums (s.parts p)).set 0 ((pc : Int) + 1))) (hc1 : ni ≤ c1) => show Calls Tryd.prog 31 #[.slice (some ⟨bp, op, none⟩) L.length cP, .int .i64 p, .slice A1 ni c1] V fun e w' => (∃ A' c', e = .returned (.slice A' L.length c') ∧ L.length ≤ c' ∧ RowsIn (okB ok w.heap.size) 1 w' A' ((partRows (s) L.length).set p ((partNums (s.parts p)).set 0 ((pc : Int) + 1))) ∧ CapsIn (okB ok w.heap.size) w' A' L.length) ∧ Below V.heap.size V w' ∧ Below wc.heap.size wc w' from (row_any ((HhV.out wc hb5).below hV).parts (okB_from HNW.out (by have := hV.size; omega)) (partRows_len _ _) hpl (HhV.out wc hb5).capP (by have := HS.out.parts; omega) ⟨by rw [List.length_set, hlm, Nat.mul_one], by unfold maxLen; omega, hi⟩ ((HhV.out wc hb5).below hV).capsP hc1).mono fun e w' ⟨he, hb⟩ => ⟨he, hb, hV.trans (hb.mono hV.size)⟩)
          have k4 := hk5.cell (k := 4) rfl
          have f4 := hk5.free 4
          go_wp2_with fail
          go_region_law ((first | (go_simp; go_at_call 30; with_reducible refine (C1.out _ (by repeat (first | assumption | exact Below.refl _ _ | refine Below.alloc ?_ (by first | exact Nat.le_refl _ | assumption) _ | refine Below.drew ?_))).mono ?_; rintro e wa ⟨⟨A1, c1, rfl, hcc1, i1⟩, hba, hbaV⟩; have ka := (hk5.all hbaV).cell (k := 4) rfl) | (go_simp; go_at_call 31; with_reducible refine (C2.out _ A1 c1 (by repeat (first | assumption | exact Below.refl _ _ | refine Below.alloc ?_ (by first | exact Nat.le_refl _ | assumption) _ | refine Below.drew ?_)) i1 hcc1).mono ?_; rintro e wb ⟨⟨A2, c2, rfl, hc2, i2, hcs2⟩, hbb, hbbV⟩; have kb := (hk5.all hbbV).cell (k := 4) rfl; have fb := (hk5.all hbbV).free 4)))
          all_goals
            have hkF := (hk5.all hbbV).set 4 (.slice A2 L.length c2)
            have hzF := (hz5.all hbbV).other (a := ⟨w.heap.size, 4, none⟩) (by show w.heap.size + 1 ≠ w.heap.size; omega) (.slice A2 L.length c2)
            have hbF := belowSet (hb5.trans (hbbV.mono hb5.size)) (b := w.heap.size) (k := 4) (Nat.le_refl _) (.slice A2 L.length c2)
            have i3 : RowsIn (okB ok w.heap.size) 1 wb A2 (partRows (s.place p ⟨pc + 1, (s.parts p).regs, (s.parts p).shown⟩) L.length) := by
              rw [partRows_set _ _ hpl, show partNums _ = ((partNums (s.parts p))).set 0 ((pc : Int) + 1) from rfl]
              exact i2
            have rkF := RKIn.set (k := 4) (⟨i3, (HhV.out wc hb5).held.below hbbV, hc2, (HhV.out wc hb5).capH, hcs2, (HhV.out wc hb5).capsH.below hbbV⟩ : RKIn (okB ok w.heap.size) wb A2 (some ⟨bh, oh, none⟩) c2 cH L.length q (s.place p ⟨pc + 1, (s.parts p).regs, (s.parts p).shown⟩)) (.inl rfl) (.slice A2 L.length c2)
            clear C1 C2 k4 f4 ka kb fb
            generalize wb.setCell ⟨w.heap.size, 4, none⟩ (.slice A2 L.length c2) = w7 at *
            have y0 := hkF.cell (k := 0) rfl
            have y1 := hkF.cell (k := 1) rfl
            have y2 := hkF.cell (k := 2) rfl
            have y3 := hkF.cell (k := 3) rfl
            have y4 := hkF.cell (k := 4) rfl
            have y5 := hkF.cell (k := 5) rfl
            have z0 := hzF.cell (k := 0) rfl
            have z1 := hzF.cell (k := 1) rfl
            have z2 := hzF.cell (k := 2) rfl
            have z3 := hzF.cell (k := 3) rfl
            have z4 := hzF.cell (k := 4) rfl
            have z5 := hzF.cell (k := 5) rfl
            have fz0 := hzF.free 0
            have fz1 := hzF.free 1
            have fz2 := hzF.free 2
            have fz3 := hzF.free 3
            have fz4 := hzF.free 4
            have fz5 := hzF.free 5
            go_wp2_with fail
            have hR := (((((hzF.set 0 (.slice (some ⟨bl, ol, none⟩) L.length cp)).set 1 (.slice Ao q co)).set 2 (.slice (some ⟨bt, ot, none⟩) T.length ct)).set 3 (.int .i64 ((t : Int) + 1))).set 4 (.slice A2 L.length c2)).set 5 (.slice (some ⟨bh, oh, none⟩) q cH)
            refine bodyPost_ret (results_row1 rfl _ _ (w.heap.size + 1) 44 (rkV (some ⟨bl, ol, none⟩) Ao (some ⟨bt, ot, none⟩) cp co ct L.length q T.length (t + 1) A2 (some ⟨bh, oh, none⟩) c2 cH) (0, 0) _ rfl hR Tryd.underlying44 rfl (by kernel_rfl)) rfl ?_
            rw [Hst.out]
            exact rk_end (rkF) hbF _ _ _ _ _ _
      · subst e
        obtain ⟨a, rfl⟩ := Int.eq_ofNat_of_zero_le r1.1
        obtain ⟨b, rfl⟩ := Int.eq_ofNat_of_zero_le r2.1
        have ha4 : a < 4 := by omega
        obtain ⟨bh, oh, Ah, nh, ch, rfl, ch0, hlh, -, hih⟩ := (HhV.out wc hb5).held.get (i := b) (by rw [heldRows_len]; omega)
        rw [heldRows_get s (by omega)] at hlh hih
        obtain ⟨bh', oh', Ah', nh', ch', eh1, -, eh2, hcap⟩ := (HhV.out wc hb5).capsH b (by omega)
        injection eh1 with eh1
        injection eh1 with eh1 eh3
        subst eh1; subst eh3
        rw [ch0] at eh2
        injection eh2 with eh2
        injection eh2 with eh4 eh5 eh6
        subst eh4; subst eh5; subst eh6
        have hbq : (b : Int) < (q : Int) := by omega
        have g0 := hx.cell (k := 0) rfl
        have g1 := hx.cell (k := 1) rfl
        have g2 := hx.cell (k := 2) rfl
        have k5 := hk5.cell (k := 5) rfl
        rcases hE : s.held b with _ | ⟨m0, l⟩
        · rw [hE] at hlh
          obtain rfl : nh = 0 := by simp at hlh; omega
          have Hst : Hid (kstep (sysOps L) p s = s) := Lib.hid (by rw [Hst0.out]; unfold kdo; dsimp only; rw [if_neg (by decide), if_neg (by decide), if_neg (by decide), if_pos rfl, Int.toNat_natCast, hE])
          clear hE k5
          have y0 := hk5.cell (k := 0) rfl
          have y1 := hk5.cell (k := 1) rfl
          have y2 := hk5.cell (k := 2) rfl
          have y3 := hk5.cell (k := 3) rfl
          have y4 := hk5.cell (k := 4) rfl
          have y5 := hk5.cell (k := 5) rfl
          have z0 := hz5.cell (k := 0) rfl
          have z1 := hz5.cell (k := 1) rfl
          have z2 := hz5.cell (k := 2) rfl
          have z3 := hz5.cell (k := 3) rfl
          have z4 := hz5.cell (k := 4) rfl
          have z5 := hz5.cell (k := 5) rfl
          have fz0 := hz5.free 0
          have fz1 := hz5.free 1
          have fz2 := hz5.free 2
          have fz3 := hz5.free 3
          have fz4 := hz5.free 4
          have fz5 := hz5.free 5
          go_wp2_with fail
          have hR := (((((hz5.set 0 (.slice (some ⟨bl, ol, none⟩) L.length cp)).set 1 (.slice Ao q co)).set 2 (.slice (some ⟨bt, ot, none⟩) T.length ct)).set 3 (.int .i64 ((t : Int) + 1))).set 4 (.slice (some ⟨bp, op, none⟩) L.length cP)).set 5 (.slice (some ⟨bh, oh, none⟩) q cH)
          refine bodyPost_ret (results_row1 rfl _ _ (w.heap.size + 1) 44 (rkV (some ⟨bl, ol, none⟩) Ao (some ⟨bt, ot, none⟩) cp co ct L.length q T.length (t + 1) (some ⟨bp, op, none⟩) (some ⟨bh, oh, none⟩) cP cH) (0, 0) _ rfl hR Tryd.underlying44 rfl (by kernel_rfl)) rfl ?_
          rw [Hst.out]
          exact rk_end (HhV.out wc hb5) hb5 _ _ _ _ _ _
        · rw [hE] at hlh hih
          have hnl : nh = l.length + 1 := by simp at hlh; omega
          have h4 := (HI.out.held b).1
          rw [hE] at h4
          have h4' : l.length + 1 ≤ 4 := by simpa using h4
          have Hst : Hid (kstep (sysOps L) p s = (s.port b l).place p ⟨pc + 1, upd (s.parts p).regs a m0, (s.parts p).shown⟩) := Lib.hid (by rw [Hst0.out]; unfold kdo; dsimp only; rw [if_neg (by decide), if_neg (by decide), if_neg (by decide), if_pos rfl, Int.toNat_natCast, Int.toNat_natCast, hE, Hpc.out])
          obtain ⟨bx, ox, rfl, hokx, hcx⟩ := hih (by simp)
          have cx0 := hcx 0 m0 rfl
          rw [Nat.add_zero] at cx0
          have Hnl := Lib.hid hnl
          have hnh : 0 < nh ∧ nh ≤ 4 := by omega
          have hnh0 : (0 : Int) < (nh : Int) := by omega
          have hnh1 : 0 < nh := by omega
          have hne : decide (nh = 0) = false := decide_eq_false (by omega)
          have hne2 : ((nh : Int) == 0) = false := by simp; omega
          clear hE hnl h4 h4'
          have hlm : (partNums (s.parts p)).length = ni := by rw [Hni.out, partNums_len]
          have hmeV : IntsAt wc (some ⟨bm, om, none⟩) (partNums (s.parts p)) := Hme.out.below hb5
          have CP := Lib.hid (fun V (hV : Below wc.heap.size wc V) => show Calls Tryd.prog 30 #[.slice (some ⟨bm, om, none⟩) ni ci, .int .i64 (1 + (a : Int)), .int .i64 m0] V (fun e w' => (∃ A' c', e = .returned (.slice A' ni c') ∧ ni ≤ c' ∧ IntsIn (fun b => V.heap.size ≤ b) w' A' ((partNums (s.parts p)).set (1 + a) m0)) ∧ Below V.heap.size V w') from put_any (i := 1 + a) (hmeV.below hV) hlm (by omega) (by omega))
          have b7 : IntKind.i64.wrap (1 + (a : Int)) = 1 + (a : Int) := by rw [IntKind.wrap_i64]; omega
          have b0 : (0 : Int) ≤ (b : Int) := by omega
          go_wp2_with fail
          refine wp_still_tailD 12 (by kernel_rfl) (by kernel_rfl) ?_
          simp only [List.take_succ_cons, List.take_zero, List.drop_succ_cons, List.drop_zero]
          repeat still_step
          refine wpStill_nil ?_
          clear b7
          obtain ⟨ox', hox⟩ : ∃ ox', (if ch = 1 then ox else ox + 1) = ox' := ⟨_, rfl⟩
          obtain ⟨n1, hn1'⟩ : ∃ n1, nh - 1 = n1 := ⟨_, rfl⟩
          obtain ⟨c1', hc1'⟩ : ∃ c1, ch - 1 = c1 := ⟨_, rfl⟩
          have hcut := fun V => run_cut1 V bx ox nh ch (by omega) hcap
          rw [hox, hn1', hc1'] at hcut
          have hil1 : IntsIn (okB ok w.heap.size) wc (some ⟨bx, ox', none⟩) l := fun hne => by
            have hl0 : 0 < l.length := List.length_pos_iff.2 hne
            have := Hnl.out
            have e1 : ox' = ox + 1 := by rw [← hox, if_neg (by omega)]
            exact ⟨bx, ox', rfl, hokx, fun j x hj => by rw [e1, Nat.add_assoc, Nat.add_comm 1 j]; exact hcx (j + 1) x hj⟩
          have hr1 : l.length = n1 * 1 ∧ n1 ≤ maxLen ∧ n1 ≤ c1' := by have := Hnl.out; unfold maxLen; omega
          have Hr1 := Lib.hid hr1
          clear hr1 hox hn1' hc1' hcx
          have CR := Lib.hid (fun V (hV : Below wc.heap.size wc V) => show Calls Tryd.prog 31 #[.slice (some ⟨bh, oh, none⟩) q cH, .int .i64 b, .slice (some ⟨bx, ox', none⟩) n1 c1'] V (fun e w' => (∃ A' c', e = .returned (.slice A' q c') ∧ q ≤ c' ∧ RowsIn (okB ok w.heap.size) 1 w' A' ((heldRows s q).set b l) ∧ CapsIn (okB ok w.heap.size) w' A' q) ∧ Below V.heap.size V w') from row_any ((HhV.out wc hb5).below hV).held (okB_from HNW.out (by have := hz5.lt; have := hV.size; omega)) (heldRows_len _ _) (by omega) (HhV.out wc hb5).capH (by have := HS.out.few; omega) ⟨Hr1.out.1, Hr1.out.2.1, hil1.below hV⟩ ((HhV.out wc hb5).below hV).capsH Hr1.out.2.2)
          clear k5
          go_wp2_with fail
          refine (CP.out _ (belowD (Below.refl _ _) 1)).mono ?_
          rintro e w6 ⟨⟨A6, c6, rfl, hcc6, i6⟩, hb6⟩
          have hx6 := (hx.drewN 1).all hb6
          have g60 := hx6.cell (k := 0) rfl
          have g61 := hx6.cell (k := 1) rfl
          have g62 := hx6.cell (k := 2) rfl
          have hk6 := (hk5.drewN 1).all hb6
          have k65 := hk6.cell (k := 5) rfl
          have f65 := hk6.free 5
          have hbc6 := (belowD (Below.refl wc.heap.size wc) 1).trans hb6
          have ch6 := (hbc6.cell (p := ⟨bh, oh + b, none⟩) (block_lt ch0)).trans ch0
          have hz6 := (hz5.drewN 1).all hb6
          go_wp2_with fail
          clear g0 g1 g2 ch0 cx0
          refine wp_still_tailD 11 (by kernel_rfl) (by decide +kernel) ?_
          simp only [List.take_succ_cons, List.take_zero, List.drop_succ_cons, List.drop_zero]
          repeat still_step
          refine wpStill_nil ?_
          go_wp2_with fail
          with_reducible refine (CR.out _ (belowD hbc6 1)).mono ?_
          rintro e wd ⟨⟨A8, c8, rfl, hc8, i8, hs8⟩, hbd⟩
          have hbd6 : Below w6.heap.size w6 wd := (belowD (Below.refl w6.heap.size w6) 1).trans hbd
          have hkd := hk6.all hbd6
          have hzd := hz6.all hbd6
          have hxd := hx6.all hbd6
          have hbwd := hb5.trans ((hbc6.trans (hbd6.mono hbc6.size)).mono hb5.size)
          have kd5 := hkd.cell (k := 5) rfl
          have fd5 := hkd.free 5
          have hk9 := hkd.set 5 (.slice A8 q c8)
          have hz9 := hzd.other (a := ⟨w.heap.size, 5, none⟩) (by show w.heap.size + 1 ≠ w.heap.size; omega) (.slice A8 q c8)
          have hx9 := hxd.other (a := ⟨w.heap.size, 5, none⟩) (by show G ≠ w.heap.size; exact fun e => hgG e.symm) (.slice A8 q c8)
          have hb9 := belowSet hbwd (b := w.heap.size) (k := 5) (Nat.le_refl _) (.slice A8 q c8)
          have hzc := hz5.lt
          have hme9 : IntsAt (wd.setCell ⟨w.heap.size, 5, none⟩ (.slice A8 q c8)) A6 ((partNums (s.parts p)).set (1 + a) m0) := ((i6.below hbd6).keep fun g _ hg => Below.heap_setCell wd ⟨w.heap.size, 5, none⟩ (.slice A8 q c8) g (by have hg : (wc.drewN 1).heap.size ≤ g := hg; have : (wc.drewN 1).heap.size = wc.heap.size := rfl; show g ≠ w.heap.size; omega)).at_
          have i9 : RowsIn (okB ok w.heap.size) 1 wd A8 (heldRows (s.port b l) q) := by
            rw [heldRows_set _ _ (by omega)]
            exact i8
          have rk9 := RKIn.set (k := 5) (⟨(HhV.out wd hbwd).parts, i9, (HhV.out wd hbwd).capP, hc8, (HhV.out wd hbwd).capsP, hs8⟩ : RKIn (okB ok w.heap.size) wd (some ⟨bp, op, none⟩) A8 cP c8 L.length q (s.port b l)) (.inl rfl) (.slice A8 q c8)
          have g90 := hx9.cell (k := 0) rfl
          have g91 := hx9.cell (k := 1) rfl
          have g92 := hx9.cell (k := 2) rfl
          have hlm9 : ((partNums (s.parts p)).set (1 + a) m0).length = ni := by rw [List.length_set]; exact hlm
          clear CR CP hcut hil1 Hr1 g60 g61 g62 k65 f65 ch6
          go_wp2_with fail
          clear kd5 fd5
          generalize wd.setCell ⟨w.heap.size, 5, none⟩ (.slice A8 q c8) = w9 at *
          have hzl2 := hz9.lt
          have hkl2 := hk9.lt
          have C1 := Lib.hid (fun V (hV : Below w9.heap.size w9 V) => show Calls Tryd.prog 30 #[.slice A6 ni c6, .int .i64 0, .int .i64 ((pc : Int) + 1)] V fun e w' => (∃ A' c', e = .returned (.slice A' ni c') ∧ ni ≤ c' ∧ IntsIn (okB ok w.heap.size) w' A' (((partNums (s.parts p)).set (1 + a) m0).set 0 ((pc : Int) + 1))) ∧ Below V.heap.size V w' ∧ Below w9.heap.size w9 w' from (put_any (i := 0) (hme9.below hV) hlm9 (by omega) (by omega)).mono fun e w' ⟨⟨A', c', he, hcc, hi⟩, hb⟩ => ⟨⟨A', c', he, hcc, hi.mono fun b _ hb => okB_from HNW.out (by have := hV.size; omega) b hb⟩, hb, hV.trans (hb.mono hV.size)⟩)
          have C2 := Lib.hid (fun V A1 c1 (hV : Below w9.heap.size w9 V) (hi : IntsIn (okB ok w.heap.size) V A1 (((partNums (s.parts p)).set (1 + a) m0).set 0 ((pc : Int) + 1))) (hc1 : ni ≤ c1) => show Calls Tryd.prog 31 #[.slice (some ⟨bp, op, none⟩) L.length cP, .int .i64 p, .slice A1 ni c1] V fun e w' => (∃ A' c', e = .returned (.slice A' L.length c') ∧ L.length ≤ c' ∧ RowsIn (okB ok w.heap.size) 1 w' A' ((partRows (s.port b l) L.length).set p (((partNums (s.parts p)).set (1 + a) m0).set 0 ((pc : Int) + 1))) ∧ CapsIn (okB ok w.heap.size) w' A' L.length) ∧ Below V.heap.size V w' ∧ Below w9.heap.size w9 w' from (row_any ((rk9).below hV).parts (okB_from HNW.out (by have := hV.size; omega)) (partRows_len _ _) hpl (rk9).capP (by have := HS.out.parts; omega) ⟨by rw [List.length_set, hlm9, Nat.mul_one], by unfold maxLen; omega, hi⟩ ((rk9).below hV).capsP hc1).mono fun e w' ⟨he, hb⟩ => ⟨he, hb, hV.trans (hb.mono hV.size)⟩)
          have k4 := hk9.cell (k := 4) rfl
          have f4 := hk9.free 4
          go_wp2_with fail
          go_region_law ((first | (go_simp; go_at_call 30; with_reducible refine (C1.out _ (by repeat (first | assumption | exact Below.refl _ _ | refine Below.alloc ?_ (by first | exact Nat.le_refl _ | assumption) _ | refine Below.drew ?_))).mono ?_; rintro e wa ⟨⟨A1, c1, rfl, hcc1, i1⟩, hba, hbaV⟩; have ka := (hk9.all hbaV).cell (k := 4) rfl) | (go_simp; go_at_call 31; with_reducible refine (C2.out _ A1 c1 (by repeat (first | assumption | exact Below.refl _ _ | refine Below.alloc ?_ (by first | exact Nat.le_refl _ | assumption) _ | refine Below.drew ?_)) i1 hcc1).mono ?_; rintro e wb ⟨⟨A2, c2, rfl, hc2, i2, hcs2⟩, hbb, hbbV⟩; have kb := (hk9.all hbbV).cell (k := 4) rfl; have fb := (hk9.all hbbV).free 4)))
          all_goals
            have hkF := (hk9.all hbbV).set 4 (.slice A2 L.length c2)
            have hzF := (hz9.all hbbV).other (a := ⟨w.heap.size, 4, none⟩) (by show w.heap.size + 1 ≠ w.heap.size; omega) (.slice A2 L.length c2)
            have hbF := belowSet (hb9.trans (hbbV.mono hb9.size)) (b := w.heap.size) (k := 4) (Nat.le_refl _) (.slice A2 L.length c2)
            have i3 : RowsIn (okB ok w.heap.size) 1 wb A2 (partRows ((s.port b l).place p ⟨pc + 1, upd (s.parts p).regs a m0, (s.parts p).shown⟩) L.length) := by
              rw [partRows_set _ _ hpl, show partNums _ = (((partNums (s.parts p)).set (1 + a) m0)).set 0 ((pc : Int) + 1) from partNums_upd _ _ _ ha4]
              exact i2
            have rkF := RKIn.set (k := 4) (⟨i3, (rk9).held.below hbbV, hc2, (rk9).capH, hcs2, (rk9).capsH.below hbbV⟩ : RKIn (okB ok w.heap.size) wb A2 A8 c2 c8 L.length q ((s.port b l).place p ⟨pc + 1, upd (s.parts p).regs a m0, (s.parts p).shown⟩)) (.inl rfl) (.slice A2 L.length c2)
            clear C1 C2 k4 f4 ka kb fb
            generalize wb.setCell ⟨w.heap.size, 4, none⟩ (.slice A2 L.length c2) = w7 at *
            have y0 := hkF.cell (k := 0) rfl
            have y1 := hkF.cell (k := 1) rfl
            have y2 := hkF.cell (k := 2) rfl
            have y3 := hkF.cell (k := 3) rfl
            have y4 := hkF.cell (k := 4) rfl
            have y5 := hkF.cell (k := 5) rfl
            have z0 := hzF.cell (k := 0) rfl
            have z1 := hzF.cell (k := 1) rfl
            have z2 := hzF.cell (k := 2) rfl
            have z3 := hzF.cell (k := 3) rfl
            have z4 := hzF.cell (k := 4) rfl
            have z5 := hzF.cell (k := 5) rfl
            have fz0 := hzF.free 0
            have fz1 := hzF.free 1
            have fz2 := hzF.free 2
            have fz3 := hzF.free 3
            have fz4 := hzF.free 4
            have fz5 := hzF.free 5
            go_wp2_with fail
            have hR := (((((hzF.set 0 (.slice (some ⟨bl, ol, none⟩) L.length cp)).set 1 (.slice Ao q co)).set 2 (.slice (some ⟨bt, ot, none⟩) T.length ct)).set 3 (.int .i64 ((t : Int) + 1))).set 4 (.slice A2 L.length c2)).set 5 (.slice A8 q c8)
            refine bodyPost_ret (results_row1 rfl _ _ (w.heap.size + 1) 44 (rkV (some ⟨bl, ol, none⟩) Ao (some ⟨bt, ot, none⟩) cp co ct L.length q T.length (t + 1) A2 A8 c2 c8) (0, 0) _ rfl hR Tryd.underlying44 rfl (by kernel_rfl)) rfl ?_
            rw [Hst.out]
            exact rk_end (rkF) hbF _ _ _ _ _ _
      · subst e
        obtain ⟨a, rfl⟩ := Int.eq_ofNat_of_zero_le r1.1
        obtain ⟨b, rfl⟩ := Int.eq_ofNat_of_zero_le r2.1
        have hb4 : b < 4 := by omega
        obtain ⟨rb, hrb⟩ := Int.eq_ofNat_of_zero_le (HR b).1
        have cr := (hb5.cell (p := ⟨bm, om + (1 + b), none⟩) (block_lt (Hcm.out (1 + b) _ (partNums_reg _ hb4)))).trans (Hcm.out (1 + b) _ (partNums_reg _ hb4))
        rw [hrb] at cr
        have g0 := hx.cell (k := 0) rfl
        have g1 := hx.cell (k := 1) rfl
        have g2 := hx.cell (k := 2) rfl
        have hb1n : ((1 + b : Nat) : Int) < (ni : Int) := by omega
        by_cases hz : rb = 0
        · have Hst : Hid (kstep (sysOps L) p s = s.place p ⟨pc + 1, (s.parts p).regs, (s.parts p).shown⟩) := Lib.hid (by rw [Hst0.out]; unfold kdo; dsimp only; rw [if_neg (by decide), if_neg (by decide), if_neg (by decide), if_neg (by decide), if_pos rfl, if_neg (by rw [Int.toNat_natCast, hrb]; simp [hz]), Hpc.out])
          have dz : ((rb : Int) != 0) = false := by simp; omega
          have dz2 : decide (rb = 0) = true := by simpa using hz
          have hlm : (partNums (s.parts p)).length = ni := by rw [Hni.out, partNums_len]
          have hmeV : IntsAt wc (some ⟨bm, om, none⟩) (partNums (s.parts p)) := Hme.out.below hb5
          have hzl2 := hz5.lt
          have hkl2 := hk5.lt
          have C1 := Lib.hid (fun V (hV : Below wc.heap.size wc V) => show Calls Tryd.prog 30 #[.slice (some ⟨bm, om, none⟩) ni ci, .int .i64 0, .int .i64 ((pc : Int) + 1)] V fun e w' => (∃ A' c', e = .returned (.slice A' ni c') ∧ ni ≤ c' ∧ IntsIn (okB ok w.heap.size) w' A' ((partNums (s.parts p)).set 0 ((pc : Int) + 1))) ∧ Below V.heap.size V w' ∧ Below wc.heap.size wc w' from (put_any (i := 0) (hmeV.below hV) hlm (by omega) (by omega)).mono fun e w' ⟨⟨A', c', he, hcc, hi⟩, hb⟩ => ⟨⟨A', c', he, hcc, hi.mono fun b _ hb => okB_from HNW.out (by have := hV.size; omega) b hb⟩, hb, hV.trans (hb.mono hV.size)⟩)
          have C2 := Lib.hid (fun V A1 c1 (hV : Below wc.heap.size wc V) (hi : IntsIn (okB ok w.heap.size) V A1 ((partNums (s.parts p)).set 0 ((pc : Int) + 1))) (hc1 : ni ≤ c1) => show Calls Tryd.prog 31 #[.slice (some ⟨bp, op, none⟩) L.length cP, .int .i64 p, .slice A1 ni c1] V fun e w' => (∃ A' c', e = .returned (.slice A' L.length c') ∧ L.length ≤ c' ∧ RowsIn (okB ok w.heap.size) 1 w' A' ((partRows (s) L.length).set p ((partNums (s.parts p)).set 0 ((pc : Int) + 1))) ∧ CapsIn (okB ok w.heap.size) w' A' L.length) ∧ Below V.heap.size V w' ∧ Below wc.heap.size wc w' from (row_any ((HhV.out wc hb5).below hV).parts (okB_from HNW.out (by have := hV.size; omega)) (partRows_len _ _) hpl (HhV.out wc hb5).capP (by have := HS.out.parts; omega) ⟨by rw [List.length_set, hlm, Nat.mul_one], by unfold maxLen; omega, hi⟩ ((HhV.out wc hb5).below hV).capsP hc1).mono fun e w' ⟨he, hb⟩ => ⟨he, hb, hV.trans (hb.mono hV.size)⟩)
          have k4 := hk5.cell (k := 4) rfl
          have f4 := hk5.free 4
          go_wp2_with fail
          go_region_law ((first | (go_simp; go_at_call 30; with_reducible refine (C1.out _ (by repeat (first | assumption | exact Below.refl _ _ | refine Below.alloc ?_ (by first | exact Nat.le_refl _ | assumption) _ | refine Below.drew ?_))).mono ?_; rintro e wa ⟨⟨A1, c1, rfl, hcc1, i1⟩, hba, hbaV⟩; have ka := (hk5.all hbaV).cell (k := 4) rfl) | (go_simp; go_at_call 31; with_reducible refine (C2.out _ A1 c1 (by repeat (first | assumption | exact Below.refl _ _ | refine Below.alloc ?_ (by first | exact Nat.le_refl _ | assumption) _ | refine Below.drew ?_)) i1 hcc1).mono ?_; rintro e wb ⟨⟨A2, c2, rfl, hc2, i2, hcs2⟩, hbb, hbbV⟩; have kb := (hk5.all hbbV).cell (k := 4) rfl; have fb := (hk5.all hbbV).free 4)))
          all_goals
            have hkF := (hk5.all hbbV).set 4 (.slice A2 L.length c2)
            have hzF := (hz5.all hbbV).other (a := ⟨w.heap.size, 4, none⟩) (by show w.heap.size + 1 ≠ w.heap.size; omega) (.slice A2 L.length c2)
            have hbF := belowSet (hb5.trans (hbbV.mono hb5.size)) (b := w.heap.size) (k := 4) (Nat.le_refl _) (.slice A2 L.length c2)
            have i3 : RowsIn (okB ok w.heap.size) 1 wb A2 (partRows (s.place p ⟨pc + 1, (s.parts p).regs, (s.parts p).shown⟩) L.length) := by
              rw [partRows_set _ _ hpl, show partNums _ = ((partNums (s.parts p))).set 0 ((pc : Int) + 1) from rfl]
              exact i2
            have rkF := RKIn.set (k := 4) (⟨i3, (HhV.out wc hb5).held.below hbbV, hc2, (HhV.out wc hb5).capH, hcs2, (HhV.out wc hb5).capsH.below hbbV⟩ : RKIn (okB ok w.heap.size) wb A2 Hp c2 cH L.length q (s.place p ⟨pc + 1, (s.parts p).regs, (s.parts p).shown⟩)) (.inl rfl) (.slice A2 L.length c2)
            clear C1 C2 k4 f4 ka kb fb
            generalize wb.setCell ⟨w.heap.size, 4, none⟩ (.slice A2 L.length c2) = w7 at *
            have y0 := hkF.cell (k := 0) rfl
            have y1 := hkF.cell (k := 1) rfl
            have y2 := hkF.cell (k := 2) rfl
            have y3 := hkF.cell (k := 3) rfl
            have y4 := hkF.cell (k := 4) rfl
            have y5 := hkF.cell (k := 5) rfl
            have z0 := hzF.cell (k := 0) rfl
            have z1 := hzF.cell (k := 1) rfl
            have z2 := hzF.cell (k := 2) rfl
            have z3 := hzF.cell (k := 3) rfl
            have z4 := hzF.cell (k := 4) rfl
            have z5 := hzF.cell (k := 5) rfl
            have fz0 := hzF.free 0
            have fz1 := hzF.free 1
            have fz2 := hzF.free 2
            have fz3 := hzF.free 3
            have fz4 := hzF.free 4
            have fz5 := hzF.free 5
            go_wp2_with fail
            have hR := (((((hzF.set 0 (.slice (some ⟨bl, ol, none⟩) L.length cp)).set 1 (.slice Ao q co)).set 2 (.slice (some ⟨bt, ot, none⟩) T.length ct)).set 3 (.int .i64 ((t : Int) + 1))).set 4 (.slice A2 L.length c2)).set 5 (.slice Hp q cH)
            refine bodyPost_ret (results_row1 rfl _ _ (w.heap.size + 1) 44 (rkV (some ⟨bl, ol, none⟩) Ao (some ⟨bt, ot, none⟩) cp co ct L.length q T.length (t + 1) A2 Hp c2 cH) (0, 0) _ rfl hR Tryd.underlying44 rfl (by kernel_rfl)) rfl ?_
            rw [Hst.out]
            exact rk_end (rkF) hbF _ _ _ _ _ _
        · have Hst : Hid (kstep (sysOps L) p s = s.place p ⟨a, (s.parts p).regs, (s.parts p).shown⟩) := Lib.hid (by rw [Hst0.out]; unfold kdo; dsimp only; rw [if_neg (by decide), if_neg (by decide), if_neg (by decide), if_neg (by decide), if_pos rfl, if_pos (by rw [Int.toNat_natCast, hrb]; omega), Int.toNat_natCast])
          have dz : ((rb : Int) != 0) = true := by simp; omega
          have dz2 : decide (rb = 0) = false := by simpa using hz
          have hlm : (partNums (s.parts p)).length = ni := by rw [Hni.out, partNums_len]
          have hmeV : IntsAt wc (some ⟨bm, om, none⟩) (partNums (s.parts p)) := Hme.out.below hb5
          have hzl2 := hz5.lt
          have hkl2 := hk5.lt
          have C1 := Lib.hid (fun V (hV : Below wc.heap.size wc V) => show Calls Tryd.prog 30 #[.slice (some ⟨bm, om, none⟩) ni ci, .int .i64 0, .int .i64 (a : Int)] V fun e w' => (∃ A' c', e = .returned (.slice A' ni c') ∧ ni ≤ c' ∧ IntsIn (okB ok w.heap.size) w' A' ((partNums (s.parts p)).set 0 (a : Int))) ∧ Below V.heap.size V w' ∧ Below wc.heap.size wc w' from (put_any (i := 0) (hmeV.below hV) hlm (by omega) (by omega)).mono fun e w' ⟨⟨A', c', he, hcc, hi⟩, hb⟩ => ⟨⟨A', c', he, hcc, hi.mono fun b _ hb => okB_from HNW.out (by have := hV.size; omega) b hb⟩, hb, hV.trans (hb.mono hV.size)⟩)
          have C2 := Lib.hid (fun V A1 c1 (hV : Below wc.heap.size wc V) (hi : IntsIn (okB ok w.heap.size) V A1 ((partNums (s.parts p)).set 0 (a : Int))) (hc1 : ni ≤ c1) => show Calls Tryd.prog 31 #[.slice (some ⟨bp, op, none⟩) L.length cP, .int .i64 p, .slice A1 ni c1] V fun e w' => (∃ A' c', e = .returned (.slice A' L.length c') ∧ L.length ≤ c' ∧ RowsIn (okB ok w.heap.size) 1 w' A' ((partRows (s) L.length).set p ((partNums (s.parts p)).set 0 (a : Int))) ∧ CapsIn (okB ok w.heap.size) w' A' L.length) ∧ Below V.heap.size V w' ∧ Below wc.heap.size wc w' from (row_any ((HhV.out wc hb5).below hV).parts (okB_from HNW.out (by have := hV.size; omega)) (partRows_len _ _) hpl (HhV.out wc hb5).capP (by have := HS.out.parts; omega) ⟨by rw [List.length_set, hlm, Nat.mul_one], by unfold maxLen; omega, hi⟩ ((HhV.out wc hb5).below hV).capsP hc1).mono fun e w' ⟨he, hb⟩ => ⟨he, hb, hV.trans (hb.mono hV.size)⟩)
          have k4 := hk5.cell (k := 4) rfl
          have f4 := hk5.free 4
          go_wp2_with fail
          go_region_law ((first | (go_simp; go_at_call 30; with_reducible refine (C1.out _ (by repeat (first | assumption | exact Below.refl _ _ | refine Below.alloc ?_ (by first | exact Nat.le_refl _ | assumption) _ | refine Below.drew ?_))).mono ?_; rintro e wa ⟨⟨A1, c1, rfl, hcc1, i1⟩, hba, hbaV⟩; have ka := (hk5.all hbaV).cell (k := 4) rfl) | (go_simp; go_at_call 31; with_reducible refine (C2.out _ A1 c1 (by repeat (first | assumption | exact Below.refl _ _ | refine Below.alloc ?_ (by first | exact Nat.le_refl _ | assumption) _ | refine Below.drew ?_)) i1 hcc1).mono ?_; rintro e wb ⟨⟨A2, c2, rfl, hc2, i2, hcs2⟩, hbb, hbbV⟩; have kb := (hk5.all hbbV).cell (k := 4) rfl; have fb := (hk5.all hbbV).free 4)))
          all_goals
            have hkF := (hk5.all hbbV).set 4 (.slice A2 L.length c2)
            have hzF := (hz5.all hbbV).other (a := ⟨w.heap.size, 4, none⟩) (by show w.heap.size + 1 ≠ w.heap.size; omega) (.slice A2 L.length c2)
            have hbF := belowSet (hb5.trans (hbbV.mono hb5.size)) (b := w.heap.size) (k := 4) (Nat.le_refl _) (.slice A2 L.length c2)
            have i3 : RowsIn (okB ok w.heap.size) 1 wb A2 (partRows (s.place p ⟨a, (s.parts p).regs, (s.parts p).shown⟩) L.length) := by
              rw [partRows_set _ _ hpl, show partNums _ = ((partNums (s.parts p))).set 0 (a : Int) from rfl]
              exact i2
            have rkF := RKIn.set (k := 4) (⟨i3, (HhV.out wc hb5).held.below hbbV, hc2, (HhV.out wc hb5).capH, hcs2, (HhV.out wc hb5).capsH.below hbbV⟩ : RKIn (okB ok w.heap.size) wb A2 Hp c2 cH L.length q (s.place p ⟨a, (s.parts p).regs, (s.parts p).shown⟩)) (.inl rfl) (.slice A2 L.length c2)
            clear C1 C2 k4 f4 ka kb fb
            generalize wb.setCell ⟨w.heap.size, 4, none⟩ (.slice A2 L.length c2) = w7 at *
            have y0 := hkF.cell (k := 0) rfl
            have y1 := hkF.cell (k := 1) rfl
            have y2 := hkF.cell (k := 2) rfl
            have y3 := hkF.cell (k := 3) rfl
            have y4 := hkF.cell (k := 4) rfl
            have y5 := hkF.cell (k := 5) rfl
            have z0 := hzF.cell (k := 0) rfl
            have z1 := hzF.cell (k := 1) rfl
            have z2 := hzF.cell (k := 2) rfl
            have z3 := hzF.cell (k := 3) rfl
            have z4 := hzF.cell (k := 4) rfl
            have z5 := hzF.cell (k := 5) rfl
            have fz0 := hzF.free 0
            have fz1 := hzF.free 1
            have fz2 := hzF.free 2
            have fz3 := hzF.free 3
            have fz4 := hzF.free 4
            have fz5 := hzF.free 5
            go_wp2_with fail
            have hR := (((((hzF.set 0 (.slice (some ⟨bl, ol, none⟩) L.length cp)).set 1 (.slice Ao q co)).set 2 (.slice (some ⟨bt, ot, none⟩) T.length ct)).set 3 (.int .i64 ((t : Int) + 1))).set 4 (.slice A2 L.length c2)).set 5 (.slice Hp q cH)
            refine bodyPost_ret (results_row1 rfl _ _ (w.heap.size + 1) 44 (rkV (some ⟨bl, ol, none⟩) Ao (some ⟨bt, ot, none⟩) cp co ct L.length q T.length (t + 1) A2 Hp c2 cH) (0, 0) _ rfl hR Tryd.underlying44 rfl (by kernel_rfl)) rfl ?_
            rw [Hst.out]
            exact rk_end (rkF) hbF _ _ _ _ _ _
      · subst e
        obtain ⟨a, rfl⟩ := Int.eq_ofNat_of_zero_le r1.1
        have ha4 : a < 4 := by omega
        have cr := (hb5.cell (p := ⟨bm, om + (1 + a), none⟩) (block_lt (Hcm.out (1 + a) _ (partNums_reg _ ha4)))).trans (Hcm.out (1 + a) _ (partNums_reg _ ha4))
        obtain ⟨ra, hra⟩ : ∃ ra, (s.parts p).regs a = ra := ⟨_, rfl⟩
        have Hra := Lib.hid hra
        rw [hra] at cr
        clear hra
        have g0 := hx.cell (k := 0) rfl
        have g1 := hx.cell (k := 1) rfl
        have g2 := hx.cell (k := 2) rfl
        have hb1n : ((1 + a : Nat) : Int) < (ni : Int) := by omega
        have Hst : Hid (kstep (sysOps L) p s = s.place p ⟨pc + 1, (s.parts p).regs, (s.parts p).shown ++ [ra]⟩) := Lib.hid (by rw [Hst0.out]; unfold kdo; dsimp only; rw [if_neg (by decide), if_neg (by decide), if_neg (by decide), if_neg (by decide), if_neg (by decide), if_pos rfl, Int.toNat_natCast, Hpc.out, Hra.out])
        have hlm : (partNums (s.parts p)).length = ni := by rw [Hni.out, partNums_len]
        have hmeV : IntsAt wc (some ⟨bm, om, none⟩) (partNums (s.parts p)) := Hme.out.below hb5
        have hown0 : wc.ownsRow wc.heap.size 3 1 (.slice none 0 0) 0 [] := World.ownsRow_nil _ _ _ _
        go_wp2_with (first
          | (at_builtin; refine wpList_join rfl _ _ rfl eInts rfl hown0 (some ⟨bm, om, none⟩) ni ci ((partNums (s.parts p)).map (.int .i64)) rfl hmeV.cells (by rw [List.length_map, hlm]) (fun u hu => by obtain ⟨x, _, rfl⟩ := List.mem_map.1 hu; rfl) (by omega) (by omega) (Nat.le_refl _) ?_; intro A3 q3 c3 w6 Hq3 hown3 hbl3; obtain rfl : q3 = ni := (by have := Hq3.out; omega); have hb6 := hbl3 wc (Below.refl _ _); have Hs6 := Lib.hid hb6.size; have cr6 := (hb6.cell (p := ⟨bm, om + (1 + a), none⟩) (block_lt cr)).trans cr; have g61 := (hx.all hb6).cell (k := 1) rfl; have g60 := (hx.all hb6).cell (k := 0) rfl)
          | (at_builtin; refine wpList_push_one eInts (by decide) rfl _ _ rfl rfl (ownsRow_below hown3 (w1 := _) (B := w6.heap.size) ((Below.refl _ _).alloc (Nat.le_refl _) _) (Nat.le_refl _)) w6.heap.size (.int .i64 ra) rfl rfl (cell_of_row _ _ 0 _ _ _ (heap_alloc_new _ _)) (by omega) (by have := Hs6.out; simp; omega) ?_; intro A4 c4 w8 hown4 hgr4 hbl4; have hb8 := hbl4 wc (hb6.alloc Hs6.out _)))
        have hk8 := hk5.all hb8
        have hz8 := hz5.all hb8
        have hbw8 := hb5.trans (hb8.mono hb5.size)
        have hme8 : IntsAt w8 A4 (partNums (s.parts p) ++ [ra]) := by
          have hc := CellsAt.own hown4
          rw [List.nil_append, show [Value.int .i64 ra] = [ra].map (.int .i64) from rfl, ← List.map_append] at hc
          exact hc.ints
        have hlm8 : (partNums (s.parts p) ++ [ra]).length = q3 + 1 := by rw [List.length_append, hlm]; rfl
        clear hown3 hown4 hgr4 hbl4 hbl3 g0 g1 g2 cr cr6 g61 g60
        have hzl2 := hz8.lt
        have hkl2 := hk8.lt
        have C1 := Lib.hid (fun V (hV : Below w8.heap.size w8 V) => show Calls Tryd.prog 30 #[.slice A4 (q3 + 1) c4, .int .i64 0, .int .i64 ((pc : Int) + 1)] V fun e w' => (∃ A' c', e = .returned (.slice A' (q3 + 1) c') ∧ (q3 + 1) ≤ c' ∧ IntsIn (okB ok w.heap.size) w' A' ((partNums (s.parts p) ++ [ra]).set 0 ((pc : Int) + 1))) ∧ Below V.heap.size V w' ∧ Below w8.heap.size w8 w' from (put_any (i := 0) (hme8.below hV) hlm8 (by omega) (by omega)).mono fun e w' ⟨⟨A', c', he, hcc, hi⟩, hb⟩ => ⟨⟨A', c', he, hcc, hi.mono fun b _ hb => okB_from HNW.out (by have := hV.size; omega) b hb⟩, hb, hV.trans (hb.mono hV.size)⟩)
        have C2 := Lib.hid (fun V A1 c1 (hV : Below w8.heap.size w8 V) (hi : IntsIn (okB ok w.heap.size) V A1 ((partNums (s.parts p) ++ [ra]).set 0 ((pc : Int) + 1))) (hc1 : (q3 + 1) ≤ c1) => show Calls Tryd.prog 31 #[.slice (some ⟨bp, op, none⟩) L.length cP, .int .i64 p, .slice A1 (q3 + 1) c1] V fun e w' => (∃ A' c', e = .returned (.slice A' L.length c') ∧ L.length ≤ c' ∧ RowsIn (okB ok w.heap.size) 1 w' A' ((partRows (s) L.length).set p ((partNums (s.parts p) ++ [ra]).set 0 ((pc : Int) + 1))) ∧ CapsIn (okB ok w.heap.size) w' A' L.length) ∧ Below V.heap.size V w' ∧ Below w8.heap.size w8 w' from (row_any ((HhV.out w8 hbw8).below hV).parts (okB_from HNW.out (by have := hV.size; omega)) (partRows_len _ _) hpl (HhV.out w8 hbw8).capP (by have := HS.out.parts; omega) ⟨by rw [List.length_set, hlm8, Nat.mul_one], by unfold maxLen; omega, hi⟩ ((HhV.out w8 hbw8).below hV).capsP hc1).mono fun e w' ⟨he, hb⟩ => ⟨he, hb, hV.trans (hb.mono hV.size)⟩)
        have k4 := hk8.cell (k := 4) rfl
        have f4 := hk8.free 4
        go_wp2_with fail
        go_region_law ((first | (go_simp; go_at_call 30; with_reducible refine (C1.out _ (by repeat (first | assumption | exact Below.refl _ _ | refine Below.alloc ?_ (by first | exact Nat.le_refl _ | assumption) _ | refine Below.drew ?_))).mono ?_; rintro e wa ⟨⟨A1, c1, rfl, hcc1, i1⟩, hba, hbaV⟩; have ka := (hk8.all hbaV).cell (k := 4) rfl) | (go_simp; go_at_call 31; with_reducible refine (C2.out _ A1 c1 (by repeat (first | assumption | exact Below.refl _ _ | refine Below.alloc ?_ (by first | exact Nat.le_refl _ | assumption) _ | refine Below.drew ?_)) i1 hcc1).mono ?_; rintro e wb ⟨⟨A2, c2, rfl, hc2, i2, hcs2⟩, hbb, hbbV⟩; have kb := (hk8.all hbbV).cell (k := 4) rfl; have fb := (hk8.all hbbV).free 4)))
        all_goals
          have hkF := (hk8.all hbbV).set 4 (.slice A2 L.length c2)
          have hzF := (hz8.all hbbV).other (a := ⟨w.heap.size, 4, none⟩) (by show w.heap.size + 1 ≠ w.heap.size; omega) (.slice A2 L.length c2)
          have hbF := belowSet (hbw8.trans (hbbV.mono hbw8.size)) (b := w.heap.size) (k := 4) (Nat.le_refl _) (.slice A2 L.length c2)
          have i3 : RowsIn (okB ok w.heap.size) 1 wb A2 (partRows (s.place p ⟨pc + 1, (s.parts p).regs, (s.parts p).shown ++ [ra]⟩) L.length) := by
            rw [partRows_set _ _ hpl, show partNums _ = ((partNums (s.parts p) ++ [ra])).set 0 ((pc : Int) + 1) from partNums_show _ _ _]
            exact i2
          have rkF := RKIn.set (k := 4) (⟨i3, (HhV.out w8 hbw8).held.below hbbV, hc2, (HhV.out w8 hbw8).capH, hcs2, (HhV.out w8 hbw8).capsH.below hbbV⟩ : RKIn (okB ok w.heap.size) wb A2 Hp c2 cH L.length q (s.place p ⟨pc + 1, (s.parts p).regs, (s.parts p).shown ++ [ra]⟩)) (.inl rfl) (.slice A2 L.length c2)
          clear C1 C2 k4 f4 ka kb fb
          generalize wb.setCell ⟨w.heap.size, 4, none⟩ (.slice A2 L.length c2) = w7 at *
          have y0 := hkF.cell (k := 0) rfl
          have y1 := hkF.cell (k := 1) rfl
          have y2 := hkF.cell (k := 2) rfl
          have y3 := hkF.cell (k := 3) rfl
          have y4 := hkF.cell (k := 4) rfl
          have y5 := hkF.cell (k := 5) rfl
          have z0 := hzF.cell (k := 0) rfl
          have z1 := hzF.cell (k := 1) rfl
          have z2 := hzF.cell (k := 2) rfl
          have z3 := hzF.cell (k := 3) rfl
          have z4 := hzF.cell (k := 4) rfl
          have z5 := hzF.cell (k := 5) rfl
          have fz0 := hzF.free 0
          have fz1 := hzF.free 1
          have fz2 := hzF.free 2
          have fz3 := hzF.free 3
          have fz4 := hzF.free 4
          have fz5 := hzF.free 5
          go_wp2_with fail
          have hR := (((((hzF.set 0 (.slice (some ⟨bl, ol, none⟩) L.length cp)).set 1 (.slice Ao q co)).set 2 (.slice (some ⟨bt, ot, none⟩) T.length ct)).set 3 (.int .i64 ((t : Int) + 1))).set 4 (.slice A2 L.length c2)).set 5 (.slice Hp q cH)
          refine bodyPost_ret (results_row1 rfl _ _ (w.heap.size + 1) 44 (rkV (some ⟨bl, ol, none⟩) Ao (some ⟨bt, ot, none⟩) cp co ct L.length q T.length (t + 1) A2 Hp c2 cH) (0, 0) _ rfl hR Tryd.underlying44 rfl (by kernel_rfl)) rfl ?_
          rw [Hst.out]
          exact rk_end (rkF) hbF _ _ _ _ _ _
  · have hd : decide ((pc : Int) ≥ nl) = true := decide_eq_true (by omega)
    have Hst := Lib.hid (show kstep (sysOps L) p s = s by unfold kstep; rw [Hpc.out, Hget.out, if_neg hlt])
    go_quiet (fail)
    have hk4 := hk3'.drewN nq
    have hz4 := hz3.drewN nq
    have hb4 := belowD hb3 nq
    clear cl1 cm1 k0 hk3' hz3 hb3
    generalize w3.drewN nq = w4 at *
    have y0 := hk4.cell (k := 0) rfl
    have y1 := hk4.cell (k := 1) rfl
    have y2 := hk4.cell (k := 2) rfl
    have y3 := hk4.cell (k := 3) rfl
    have y4 := hk4.cell (k := 4) rfl
    have y5 := hk4.cell (k := 5) rfl
    have z0 := hz4.cell (k := 0) rfl
    have z1 := hz4.cell (k := 1) rfl
    have z2 := hz4.cell (k := 2) rfl
    have z3 := hz4.cell (k := 3) rfl
    have z4 := hz4.cell (k := 4) rfl
    have z5 := hz4.cell (k := 5) rfl
    have fz0 := hz4.free 0
    have fz1 := hz4.free 1
    have fz2 := hz4.free 2
    have fz3 := hz4.free 3
    have fz4 := hz4.free 4
    have fz5 := hz4.free 5
    go_wp2_with fail
    have hR := (((((hz4.set 0 (.slice (some ⟨bl, ol, none⟩) L.length cp)).set 1 (.slice Ao q co)).set 2 (.slice (some ⟨bt, ot, none⟩) T.length ct)).set 3 (.int .i64 ((t : Int) + 1))).set 4 (.slice (some ⟨bp, op, none⟩) L.length cP)).set 5 (.slice Hp q cH)
    refine bodyPost_ret (results_row1 rfl _ _ (w.heap.size + 1) 44 (rkV (some ⟨bl, ol, none⟩) Ao (some ⟨bt, ot, none⟩) cp co ct L.length q T.length (t + 1) (some ⟨bp, op, none⟩) Hp cP cH) (0, 0) _ rfl hR Tryd.underlying44 rfl (by kernel_rfl)) rfl ?_
    rw [Hst.out]
    exact rk_end (HhV.out _ hb4) hb4 _ _ _ _ _ _
end Go.Proofs.YtgkanbaboeppfaaDoor
