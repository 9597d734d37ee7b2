/-
  Contract: trail.Open.
-/
import Derived.Test.YtanlmfnhlldkeaaGreatDoorTrH
import Derived.Test.YtanlmfnhlldkeaaGreatDoorLoopA
namespace Go.Proofs.YtanlmfnhlldkeaaGreatDoor
open Go.RowKit Go.Shelf
attribute [local go_sem] Oper.semAt_some
attribute [local simp, local go_sem] wide_fn
set_option maxRecDepth 100000
set_option linter.unusedVariables false

/-- What Open hands on. -/
def OpenPost (w : World) (U F : List Int) (r : TS × Nat × Nat) (e : Ending) (w' : World) : Prop :=
  (r.2.2 = 0 ∧ ∃ b p v A own, e = .returned (.tuple #[.pointer (some ⟨b, 0, none⟩), .int .i64 r.2.1, .nilIface]) ∧ TrailAt w.heap.size own w' b p v A U F r.1) ∨
  (r.2.2 ≠ 0 ∧ e = .returned (.tuple #[.pointer none, .int .i64 r.2.1, .iface 63 (.int .i64 r.2.2)]))
theorem Glob.next {w w' : World} (h : Glob w) (hb : Below w.heap.size w w') : Glob w' :=
  ⟨h.tab.next hb, h.err.next hb, h.pow.next hb hb.size (Nat.le_refl _), fun V hV => h.num V (hb.trans (hV.mono hb.size))⟩
/-- Behind the marks: nothing has turned but they. -/
theorem leaves_marksQ {F : Fence} {n : Nat} {P : Program} {fn : Func} {tmps : Array Value} {R : Ending → World → Prop} {B : Nat} : ∀ (Ds : List Nat) (w : World), MarksAt B w Ds →
    (∀ w', QKeeps (fun k => k ∈ Ds) w w' → ∃ v, (results fn tmps).run P w' = .ok v w' ∧ R (.returned v) w') → LeavesInM F n P fn tmps R (Ds.map mark) .returning w
  | [], w, _, h => by
    obtain ⟨v, hv, hR⟩ := h w (QKeeps.refl _ w)
    exact ⟨v, hv, hR⟩
  | D :: Ds, w, hM, h => by
    obtain ⟨hn, hall⟩ := hM
    have hD := hall D (List.mem_cons_self ..)
    have hlt : D < w.heap.size := (Array.getElem?_eq_some_iff.1 hD.2).1
    refine ⟨by simp, .inl ⟨D, _, rfl, run_takeDeferred hD.2, ?_⟩⟩
    refine leaves_marksQ Ds _ ⟨(List.nodup_cons.1 hn).2, fun x hx => ⟨(hall x (List.mem_cons_of_mem _ hx)).1, ?_⟩⟩ fun w' hw => ?_
    · rw [World.putObj_heap_other (fun e => (List.nodup_cons.1 hn).1 (by rw [← e]; exact hx))]
      exact (hall x (List.mem_cons_of_mem _ hx)).2
    · exact h w' (((QKeeps.refl (fun k => k ∈ D :: Ds) w).grown (grownBy_putObj' w D _) (fun g e => by cases e; exact .inl (List.mem_cons_self ..))).trans hw fun k hk => .inl (List.mem_cons_of_mem _ hk))
theorem BoxN.but {W W' : World} {k C B : Nat} {t : TypeId} {vs : Array Value} (h : BoxN W k t vs) (hC : k ≠ C) {row : Option Nat} (hg : W.grownBy W' row) (hr : ∀ r, row = some r → r = C ∨ (B ≤ r ∧ ∃ o : Obj, W.heap[r]? = some o ∧ o.isCells = false)) : BoxN W' k t vs :=
  (hg.block k h.lt fun e => by
    rcases hr k e.symm with e | ⟨_, o, ho, hn⟩
    · exact hC e
    · have h2 : W.heap[k]? = _ := h
      rw [ho] at h2
      injection h2 with h2
      subst h2
      cases hn).trans h
theorem below_but {W0 W W' : World} {n C B : Nat} (h : Below n W0 W) (hC : n ≤ C) (hB : n ≤ B) {row : Option Nat} (hg : W.grownBy W' row) (hr : ∀ r, row = some r → r = C ∨ (B ≤ r ∧ ∃ o : Obj, W.heap[r]? = some o ∧ o.isCells = false)) (hs : n ≤ W.heap.size) : Below n W0 W' :=
  ⟨hg.os.trans h.os, hg.tape.trans h.tape, hg.output.trans h.output, Nat.le_trans h.size hg.size, fun k hk => (hg.block k (by omega) fun e => by rcases hr k e.symm with e | ⟨e, _⟩ <;> omega).trans (h.block k hk)⟩
/-- A trail that is being opened. -/
structure OpSt (W1 : World) (a C t9 b p : Nat) (A : LA) (U F : List Int) (W : World) (T : TS) (v : Value) (own : Nat → Prop) : Prop where
  tr : TrailAt W1.heap.size own W b p v A U F T
  ce : CellsIn own W
  nC : ¬ own C
  n9 : ¬ own t9
  r0 : BoxN W a 92 #[.pointer none]
  r1 : BoxN W (a + 1) 3 #[.int .i64 0]
  r2 : BoxN W (a + 1 + 1) 35 #[.nilIface]
  r9 : BoxN W t9 92 #[.pointer (some ⟨b, 0, none⟩)]
  bw : Below W1.heap.size W1 W
  cl : C < W.heap.size
theorem TInv.line {U F : List Int} {T : TS} (h : TInv U F T) (s : List UInt8) : TInv U F (tLine U F T s).1 := by
  unfold tLine
  dsimp only
  split
  · exact h
  · split
    · exact h
    · split
      · exact h
      · split
        · exact h
        · split
          · exact h
          · split
            · exact h.ask _ _ _ _
            · split
              · exact h.ask _ _ _ _
              · exact h.ask _ _ _ _
theorem OpSt.but {W1 W W' : World} {a C t9 b p B : Nat} {A : LA} {U F : List Int} {T : TS} {v : Value} {own : Nat → Prop} (h : OpSt W1 a C t9 b p A U F W T v own) (hB : W1.heap.size ≤ B) (hC : W1.heap.size ≤ C) (hCa : a + 1 + 1 < C) (hC9 : t9 ≠ C) {row : Option Nat} (hg : W.grownBy W' row) (hr : ∀ r, row = some r → r = C ∨ (B ≤ r ∧ ∃ o : Obj, W.heap[r]? = some o ∧ o.isCells = false)) :
    OpSt W1 a C t9 b p A U F W' T v own :=
  ⟨(h.tr.own_but h.ce h.nC hg hr).1, (h.tr.own_but h.ce h.nC hg hr).2, h.nC, h.n9, h.r0.but (by omega) hg hr, h.r1.but (by omega) hg hr, h.r2.but (by omega) hg hr, h.r9.but hC9 hg hr, below_but h.bw hC hB hg hr h.bw.size, Nat.lt_of_lt_of_le h.cl hg.size⟩
/-- Behind a line. -/
theorem OpSt.next {W1 W W' : World} {a C t9 b p c : Nat} {A : LA} {U F : List Int} {T T' : TS} {v : Value} {own : Nat → Prop} {e : Ending} (h : OpSt W1 a C t9 b p A U F W T v own) (ha : a + 1 + 1 < W1.heap.size) (hq : AskPost W1.heap.size own W b p A U F T' c e W') :
    e = .returned (errVal c) ∧ (∃ v' own', OpSt W1 a C t9 b p A U F W' T' v' own') ∧ QKeeps own W W' := by
  obtain ⟨he, own', v', hT, ho, hk⟩ := hq
  obtain ⟨ht, hc, hin⟩ := hT.tight
  have hno : ∀ k, k < W1.heap.size → ¬ own k := fun k hk hh => by have := h.tr.low k hh; omega
  refine ⟨he, ⟨v', _, ht, hc, fun hh => ?_, fun hh => ?_, hk.box h.r0 (hno _ (by omega)), hk.box h.r1 (hno _ (by omega)), hk.box h.r2 (hno _ ha), hk.box h.r9 h.n9, hk.to_below (fun k hk => h.tr.low k hk) h.bw h.bw.size, Nat.lt_of_lt_of_le h.cl hk.size⟩, hk⟩
  · rcases ho _ (hin _ hh) with e | e
    · exact h.nC e
    · have := h.cl
      omega
  · have := h.r9.lt
    rcases ho _ (hin _ hh) with e | e
    · exact h.n9 e
    · omega
set_option maxHeartbeats 16000000 in
theorem TOpen_ok (U F : List Int) (m n : Nat) (hU : U.length = m * 2) (hF : F.length = n * 2) (Ua Fa : Option Addr) (c d : Nat) (s : ByteArray) (hs : s.size < 4294967281) (w : World) (hG : Glob w) (iU : IntsAt w Ua U) (iF : IntsAt w Fa F) (h1 : labsCode U m 8 = 0) (h2 : labsCode F n 8 = 0) :
    Calls Tryz.prog 118 #[.slice Ua m c, .slice Fa n d, .string s] w fun e w' => OpenPost w U F (tOpen U F (tStart m n) s.data.toList) e w' ∧ Below w.heap.size w w' := by
  refine (callsIn_wide (n := 8)).1 ?_
  have CN := Lib.hid (fun V (hV : Below w.heap.size w V) => TNew_ok U F m n hU hF Ua Fa c d V (iU.below hV) (iF.below hV) h1 h2)
  obtain ⟨W1, hW1⟩ : ∃ W1, ((w.alloc (.cells #[.pointer none] 92)).alloc (.cells #[.int .i64 0] 3)).alloc (.cells #[.nilIface] 35) = W1 := ⟨_, rfl⟩
  have hr0 : BoxN W1 w.heap.size 92 #[.pointer none] := by rw [← hW1]; exact ((BoxN.new w _ _).alloc _).alloc _
  have hr1 : BoxN W1 (w.heap.size + 1) 3 #[.int .i64 0] := by rw [← hW1]; exact (BoxN.new' _ _ _ _ (by simp)).alloc _
  have hr2 : BoxN W1 (w.heap.size + 1 + 1) 35 #[.nilIface] := by rw [← hW1]; exact BoxN.new' _ _ _ _ (by simp)
  have hb1 : Below w.heap.size w W1 := by rw [← hW1]; exact (((Below.refl _ _).alloc (Nat.le_refl _) _).alloc (by simp) _).alloc (by simp; omega) _
  have hs1 : W1.heap.size = w.heap.size + 3 := by rw [← hW1]; simp
  have hG1 : Glob W1 := hG.next hb1
  obtain ⟨L, z, hcut, hlines, hfree, hz⟩ := lines_cut s.data.toList
  have hm8 := (labsCode_ok h1)
  have hn8 := (labsCode_ok h2)
  refine callsIn_of_wp_marks Tryz.func118 rfl trivial ?_ rfl
  simp only [Tryz.ntmps118, List.size_toArray, List.length_cons, List.length_nil, Nat.reduceAdd, Nat.reduceSub, Array.replicate_succ, Array.replicate_zero, List.push_toArray, List.append_toArray, List.nil_append, List.cons_append]
  have Hlines := Lib.hid hlines
  have Hcut := Lib.hid hcut
  have Hfree := Lib.hid hfree
  have Hz := Lib.hid hz
  clear hlines hcut hfree hz iU iF h1 h2
  gi_wp2_with fail
  try rw [hW1]
  clear hW1
  refine (callsIn_wide.2 (CN.out W1 hb1)).mono ?_
  rintro e w2 ⟨⟨b, p, v, A, own, rfl, hT⟩, hb2⟩
  obtain ⟨hT', hce, hin⟩ := hT.tight
  have hz2 := hb2.size
  have q9 : BoxN (w2.alloc (.cells #[.pointer (some ⟨b, 0, none⟩)] 92)) w2.heap.size 92 #[.pointer (some ⟨b, 0, none⟩)] := BoxN.new _ _ _
  have hba : Below w2.heap.size w2 (w2.alloc (.cells #[.pointer (some ⟨b, 0, none⟩)] 92)) := (Below.refl _ _).alloc (Nat.le_refl _) _
  have hs3 : (w2.alloc (.cells #[.pointer (some ⟨b, 0, none⟩)] 92)).heap.size = w2.heap.size + 1 := by simp
  gi_wp2_with fail
  generalize w2.alloc (.cells #[.pointer (some ⟨b, 0, none⟩)] 92) = w3 at *
  refine (callsIn_wide.2 (Lines_any s w3)).mono ?_
  rintro e w4 ⟨rfl, rfl⟩
  have hbX : Below w3.heap.size w3 (w3.alloc (.cells #[.string s] 9)) := (Below.refl _ _).alloc (Nat.le_refl _) _
  have hxd : BoxN (w3.alloc (.cells #[.string s] 9)) w3.heap.size 9 #[.string s] := BoxN.new _ _ _
  have hsX : (w3.alloc (.cells #[.string s] 9)).heap.size = w3.heap.size + 1 := by simp
  generalize w3.alloc (.cells #[.string s] 9) = X at *
  have hb2X := hba.trans (hbX.mono hba.size)
  have hbX1 := hb2.trans (hb2X.mono hz2)
  obtain ⟨T0, hT0⟩ : ∃ T0, tStart m n = T0 := ⟨_, rfl⟩
  have hI0 : TInv U F T0 := by rw [← hT0]; exact TInv.start hm8.1 hn8.1
  rw [hT0] at hT'
  have hSt0 : OpSt W1 w.heap.size w3.heap.size w2.heap.size b p A U F X T0 v (tightT b p v A U F) :=
    ⟨hT'.below hb2X, fun k hk => by rw [hb2X.block k (hT'.lt k hk)]; exact hce k hk, fun hh => by have := hT'.lt _ hh; omega, fun hh => by have := hT'.lt _ hh; omega, hr0.all hbX1, hr1.all hbX1, hr2.all hbX1, q9.all hbX, hbX1, by omega⟩
  have hCl : w3.heap.size < X.heap.size := by omega
  have hC1 : W1.heap.size ≤ w3.heap.size := by omega
  have h9C : w2.heap.size ≠ w3.heap.size := by omega
  have hCa : w.heap.size + 1 + 1 < w3.heap.size := by omega
  have ha1 : w.heap.size + 1 + 1 < W1.heap.size := by omega
  have hX1 : W1.heap.size ≤ X.heap.size := by omega
  have h9X : w2.heap.size < X.heap.size := by omega
  have h91 : W1.heap.size ≤ w2.heap.size := hz2
  clear hT hT' hce hin hb2 q9 hba hs3 hbX hsX hb2X hr0 hr1 hr2 hbX1 CN
  replace hT0 := Lib.hid hT0
  generalize w3.heap.size = C at *
  generalize w2.heap.size = t9 at *
  gi_wp2_with fail
  refine wp_lines1 (by decide) 11 (C := C) (s := s) rfl hxd (by omega)
    (fun pre Y => ∃ T v own, pre.length ≤ L.length ∧ Hid (tLines U F T0 L = tLines U F T (L.drop pre.length)) ∧ TInv U F T ∧ OpSt W1 w.heap.size C t9 b p A U F Y T v own)
    (fun cd _ Y => (cd = .ret ∧ ∃ (T : TS) (k code : Nat) (kk : Int), kk = (k : Int) ∧ code ≠ 0 ∧ Hid (tLines U F T0 L = (T, k, code)) ∧ BoxN Y w.heap.size 92 #[.pointer none] ∧ BoxN Y (w.heap.size + 1) 3 #[.int .i64 kk] ∧ BoxN Y (w.heap.size + 1 + 1) 35 #[.iface 63 (.int .i64 code)] ∧ Below w.heap.size w Y) ∨
      (cd = .exit 0 ∧ ∃ T v own, Hid (tLines U F T0 L = (T, T.many, 0)) ∧ OpSt W1 w.heap.size C t9 b p A U F Y T v own))
    ?hI ?hIx ?h0 ?assign ?body ?done ?stop
  case hI =>
    rintro pre Y Y' row ⟨T, v, own, g1, g2, g3, g4⟩ hg hr
    exact ⟨T, v, own, g1, g2, g3, g4.but hX1 hC1 hCa h9C hg hr⟩
  case hIx =>
    rintro cd pre Y Y' row (⟨rfl, T, k, code, kk, hkk, g1, g2, g3, g4, g5, g6⟩ | ⟨rfl, T, v, own, g1, g2⟩) hg hr
    · exact .inl ⟨rfl, T, k, code, kk, hkk, g1, g2, g3.but (by omega) hg hr, g4.but (by omega) hg hr, g5.but (by omega) hg hr, below_but g6 (by omega) (by omega) hg hr g6.size⟩
    · exact .inr ⟨rfl, T, v, own, g1, g2.but hX1 hC1 hCa h9C hg hr⟩
  case h0 => exact ⟨T0, v, _, Nat.zero_le _, Lib.hid rfl, hI0, hSt0⟩
  case assign =>
    intro l x Y K hK
    gi_wp2
    exact hK
  case body =>
    rintro l pre x Y ⟨T, v, own, g1, g2, g3, g4⟩ hok
    have hxi : (linesB s)[pre.length]? = some x := by
      obtain ⟨t, ht⟩ := hok
      rw [← ht]
      simp
    unfold linesB at hxi
    rw [Hlines.out, List.getElem?_map] at hxi
    obtain ⟨xl, hxl, hxe⟩ := Option.map_eq_some_iff.1 hxi
    have hYs := g4.bw.size
    have hCY := g4.cl
    have hTb := Lib.hid g4.tr
    have hlu := g4.tr.bell.lu
    have hlf := g4.tr.bell.lf
    have c9 : Y.cell? ⟨t9, 0, none⟩ = some (.pointer (some ⟨b, 0, none⟩)) := g4.r9.cell rfl
    have m3 := g4.tr.ck
    have hmany := g3.many
    have hw3 : IntKind.i64.wrap ((T.many : Int) + 1) = (T.many : Int) + 1 := (IntKind.wrap_i64 _).trans (by omega)
    clear hxi hok
    by_cases hj : pre.length < L.length
    · obtain ⟨yl, hyl⟩ : ∃ yl, L[pre.length]? = some yl := ⟨_, List.getElem?_eq_getElem hj⟩
      have hxl2 : xl = yl ++ [10] := by
        rw [List.getElem?_append_left (by rw [List.length_map]; exact hj), List.getElem?_map, hyl] at hxl
        injection hxl with hxl
        exact hxl.symm
      subst hxl2
      have hlen : yl.length ≤ s.size := by
        have := cutL_le 10 s.data.toList yl (by rw [Hcut.out]; exact List.mem_append_left _ (List.mem_of_getElem? hyl))
        rwa [← ba_size] at this
      have hxd2 : x.data.toList = yl ++ [10] := by rw [← hxe]
      have hxs : x.size ≤ 9223372036854775807 := by rw [ba_size, hxd2, List.length_append, List.length_singleton]; omega
      obtain ⟨y, hy⟩ : ∃ y : ByteArray, y.data.toList = yl := ⟨⟨yl.toArray⟩, ba_of yl⟩
      have hys : y.size < 4294967281 := by rw [ba_size, hy]; omega
      have CC := Lib.hid (CutSuffix_any x hxs (y := y) (b := true) (.inl ⟨rfl, by rw [hxd2, hy]⟩) Y)
      have CL := TLine_any hG1 g4.bw g4.tr g3 (fun i hi => hm8.2 i (by omega)) (fun i hi => hn8.2 i (by omega)) y hys
      rw [hy] at CL
      have hdrop : L.drop pre.length = yl :: L.drop (pre.length + 1) := by
        rw [List.drop_eq_getElem_cons hj]
        rw [List.getElem?_eq_getElem hj] at hyl
        injection hyl with hyl
        rw [hyl]
      have HT' : Hid (TInv U F (tLine U F T yl).1) := Lib.hid (g3.line yl)
      have hst := g2.out
      rw [hdrop, tLines] at hst
      obtain ⟨r, hr⟩ : ∃ r, tLine U F T yl = r := ⟨_, rfl⟩
      rw [hr] at CL HT' hst
      obtain ⟨T', code⟩ := r
      have HCL := Lib.hid CL
      have Hst := Lib.hid hst
      have Hg4 := Lib.hid g4
      clear CL hst hr hdrop hy hys hxd2 hxe hxl hlen g4 g2 g3 hTb hlu hlf hxs hyl
      gi_wp2_with fail
      refine (callsIn_wide.2 CC.out).mono ?_
      rintro e w5 ⟨rfl, rfl⟩
      gi_wp2_with fail
      refine (callsIn_wide.2 HCL.out).mono ?_
      rintro e w6 hq
      obtain ⟨rfl, ⟨v', own', hSt6⟩, hk6⟩ := Hg4.out.next ha1 hq
      have hKF := keepsFrom_of (B := X.heap.size) hk6 Hg4.out.ce
      have hKC : KeepC C Y w6 := hk6.block C Hg4.out.cl Hg4.out.nC
      clear hq HCL CC m3 c9 hw3
      by_cases hc0 : code = 0
      · subst hc0
        rw [errVal_zero]
        gi_wp2_with fail
        have hst := Hst.out
        rw [if_neg (by simp)] at hst
        exact ⟨hKF, hKC, T', v', own', by rw [List.length_append, List.length_singleton]; omega, Lib.hid (by rw [hst, List.length_append, List.length_singleton]), HT'.out, hSt6⟩
      · rw [errVal_pos hc0]
        have hst := Hst.out
        rw [if_pos hc0] at hst
        replace hst := Lib.hid hst
        have c0 := hSt6.r0.cell (k := 0) rfl
        have c1 := hSt6.r1.cell (k := 0) rfl
        have c2 := hSt6.r2.cell (k := 0) rfl
        have f0 := hSt6.r0.free 0
        have f1 := hSt6.r1.free 0
        have f2 := hSt6.r2.free 0
        clear Hst
        gi_wp2_with fail
        have z0 := (((hSt6.r0.set 0 (.pointer none)).other (a := ⟨w.heap.size + 1, 0, none⟩) (by simp) (.int .i64 ((T.many : Int) + 1))).other (a := ⟨w.heap.size + 1 + 1, 0, none⟩) (by show w.heap.size ≠ w.heap.size + 1 + 1; omega) (.iface 63 (.int .i64 code)))
        have z1 := (((hSt6.r1.other (a := ⟨w.heap.size, 0, none⟩) (by simp) (.pointer none)).set 0 (.int .i64 ((T.many : Int) + 1))).other (a := ⟨w.heap.size + 1 + 1, 0, none⟩) (by simp) (.iface 63 (.int .i64 code)))
        have z2 := (((hSt6.r2.other (a := ⟨w.heap.size, 0, none⟩) (by show w.heap.size + 1 + 1 ≠ w.heap.size; omega) (.pointer none)).other (a := ⟨w.heap.size + 1, 0, none⟩) (by simp) (.int .i64 ((T.many : Int) + 1))).set 0 (.iface 63 (.int .i64 code)))
        have hbw := hb1.trans (hSt6.bw.mono hb1.size)
        exact ⟨hKF.trans ((((KeepsOthers.setCell _ _ _).trans (KeepsOthers.setCell _ _ _)).trans (KeepsOthers.setCell _ _ _)).from _), .inl ⟨rfl, T, T.many + 1, code, (T.many : Int) + 1, by omega, hc0, hst, z0, z1, z2, ((hbw.setCell (p := ⟨w.heap.size, 0, none⟩) (Nat.le_refl _) _).setCell (p := ⟨w.heap.size + 1, 0, none⟩) (by simp) _).setCell (p := ⟨w.heap.size + 1 + 1, 0, none⟩) (by show w.heap.size ≤ w.heap.size + 1 + 1; omega) _⟩⟩
    · have hj2 : pre.length = L.length := by omega
      rw [List.getElem?_append_right (by rw [List.length_map]; omega), List.length_map, hj2, Nat.sub_self] at hxl
      have hzn : z ≠ [] := fun e => by rw [e] at hxl; simp at hxl
      rw [if_neg hzn] at hxl
      injection hxl with hxl
      subst hxl
      have hxd2 : x.data.toList = z := by rw [← hxe]
      have hlen : z.length ≤ s.size := by
        have := cutL_le 10 s.data.toList z (by rw [Hcut.out]; exact List.mem_append_right _ (List.mem_singleton_self _))
        rwa [← ba_size] at this
      have hxs : x.size ≤ 9223372036854775807 := by rw [ba_size, hxd2]; omega
      have CC := Lib.hid (CutSuffix_any x hxs (y := x) (b := false) (.inr ⟨rfl, rfl, by rw [hxd2]; exact Hz.out⟩) Y)
      have hst := g2.out
      rw [hj2, List.drop_length, tLines] at hst
      have Hst := Lib.hid hst
      have Hg4 := Lib.hid g4
      clear hst hxe hxd2 hxs g4 g2 g3 hTb hlu hlf hlen
      gi_wp2_with fail
      refine (callsIn_wide.2 CC.out).mono ?_
      rintro e w5 ⟨rfl, rfl⟩
      gi_wp2_with fail
      exact ⟨KeepsFrom.refl _ _, .inr ⟨rfl, T, v, own, Hst, Hg4.out⟩⟩
  case done =>
    rintro D Z hD ⟨T, v, own, g1, g2, g3, g4⟩ hK
    have hz0 : z = [] := by
      by_cases h : z = []
      · exact h
      · exfalso
        unfold linesB at g1
        rw [Hlines.out, if_neg h] at g1
        simp at g1
        omega
    have hend : tLines U F T0 L = (T, T.many, 0) := by
      have h2 := g2.out
      unfold linesB at h2
      rw [Hlines.out, if_pos hz0] at h2
      simpa [tLines] using h2
    have Hend := Lib.hid hend
    clear hz0 hend g1 g2
    have hbl := g4.tr.low b g4.tr.ob
    have n1 : ¬ b = w.heap.size := by omega
    have n2 : ¬ b = w.heap.size + 1 := by omega
    have n3 : ¬ b = w.heap.size + 1 + 1 := by omega
    have n4 : ¬ t9 = w.heap.size := by omega
    have n5 : ¬ t9 = w.heap.size + 1 := by omega
    have n6 : ¬ t9 = w.heap.size + 1 + 1 := by omega
    have c0 := g4.r0.cell (k := 0) rfl
    have c1 := g4.r1.cell (k := 0) rfl
    have c2 := g4.r2.cell (k := 0) rfl
    have c9 := g4.r9.cell (k := 0) rfl
    have m3 := g4.tr.ck
    have f0 := g4.r0.free 0
    have f1 := g4.r1.free 0
    have f2 := g4.r2.free 0
    have Hg4 := Lib.hid g4
    clear g4
    gi_wp2_with fail
    gi_region
    have e0 := (((Hg4.out.r0.set 0 (.pointer (some ⟨b, 0, none⟩))).other (a := ⟨w.heap.size + 1, 0, none⟩) (by simp) (.int .i64 T.many)).other (a := ⟨w.heap.size + 1 + 1, 0, none⟩) (by show w.heap.size ≠ w.heap.size + 1 + 1; omega) .nilIface).drew
    have e1 := (((Hg4.out.r1.other (a := ⟨w.heap.size, 0, none⟩) (by simp) (.pointer (some ⟨b, 0, none⟩))).set 0 (.int .i64 T.many)).other (a := ⟨w.heap.size + 1 + 1, 0, none⟩) (by simp) .nilIface).drew
    have e2 := (((Hg4.out.r2.other (a := ⟨w.heap.size, 0, none⟩) (by show w.heap.size + 1 + 1 ≠ w.heap.size; omega) (.pointer (some ⟨b, 0, none⟩))).other (a := ⟨w.heap.size + 1, 0, none⟩) (by simp) (.int .i64 T.many)).set 0 .nilIface).drew
    have hM := ((((MarksAt.nil (B := X.heap.size)).cons (D := D) hD (by simp) hK).setCell ⟨w.heap.size, 0, none⟩ (.pointer (some ⟨b, 0, none⟩))).setCell ⟨w.heap.size + 1, 0, none⟩ (.int .i64 T.many)).setCell ⟨w.heap.size + 1 + 1, 0, none⟩ .nilIface
    have hqZ := ((((QKeeps.refl (fun k => k < W1.heap.size ∧ w.heap.size ≤ k) Z).setCell (p := ⟨w.heap.size, 0, none⟩) ⟨by show w.heap.size < _; omega, Nat.le_refl _⟩ (.pointer (some ⟨b, 0, none⟩))).setCell (p := ⟨w.heap.size + 1, 0, none⟩) ⟨by show w.heap.size + 1 < _; omega, by simp⟩ (.int .i64 T.many)).setCell (p := ⟨w.heap.size + 1 + 1, 0, none⟩) ⟨ha1, by show w.heap.size ≤ w.heap.size + 1 + 1; omega⟩ .nilIface).drewN 1
    generalize hZ3 : (((Z.setCell ⟨w.heap.size, 0, none⟩ (.pointer (some ⟨b, 0, none⟩))).setCell ⟨w.heap.size + 1, 0, none⟩ (.int .i64 T.many)).setCell ⟨w.heap.size + 1 + 1, 0, none⟩ .nilIface) = Z3 at *
    have hbZ : Below w.heap.size w Z := hb1.trans (Hg4.out.bw.mono hb1.size)
    have hbZ3 := hqZ.to_below (B := w.heap.size) (w0 := w) (fun k hk => hk.2) hbZ hbZ.size
    have hT3 := Hg4.out.tr.keeps hqZ (fun k hk hh => by have := Hg4.out.tr.low k hk; omega)
    gi_wp2_with fail
    have hZD : Z3.drew.heap[D]? = some (.deferred (some [])) := (hM.2 D (List.mem_cons_self ..)).2
    refine leaves_marksQ (B := X.heap.size) [D] Z3.drew ⟨hM.1, hM.2⟩ fun w' hq' => ?_
    have hX0 : w.heap.size + 1 + 1 < D := by omega
    have d0 := (hq'.box e0 (fun hh => by have := List.mem_singleton.1 hh; omega)).cell (k := 0) rfl
    have d1 := (hq'.box e1 (fun hh => by have := List.mem_singleton.1 hh; omega)).cell (k := 0) rfl
    have d2 := (hq'.box e2 (fun hh => by have := List.mem_singleton.1 hh; omega)).cell (k := 0) rfl
    have hTw := hT3.keeps hq' (fun k hk hh => by
      obtain rfl := List.mem_singleton.1 hh
      obtain ⟨o, ho, hy⟩ := Hg4.out.ce k hk
      rw [hK] at ho
      injection ho with ho
      subst ho
      cases hy)
    refine ⟨.tuple #[.pointer (some ⟨b, 0, none⟩), .int .i64 T.many, .nilIface], by simp [results, Tryz.f118, go_sem, d0, d1, d2], .inl ⟨?_, b, p, v, A, own, ?_, ?_⟩, hq'.to_below (fun k hk => by have := List.mem_singleton.1 hk; omega) hbZ3 hbZ3.size⟩
    · unfold tOpen
      rw [hT0.out, Hcut.out, List.dropLast_concat, Hend.out]
    · unfold tOpen
      rw [hT0.out, Hcut.out, List.dropLast_concat, Hend.out]
    · unfold tOpen
      rw [hT0.out, Hcut.out, List.dropLast_concat, Hend.out]
      exact ⟨hTw.trl, hTw.bell, hTw.ob, hTw.om, hTw.ov, hTw.oa, hTw.nb, hTw.nv, hTw.lt, fun k hk => Nat.le_trans hb1.size (hTw.low k hk)⟩
  case stop =>
    rintro D cd pre Z hD _ (⟨rfl, T, k, code, kk, hkk, g1, g2, g3, g4, g5, g6⟩ | ⟨rfl, T, v, own, Hend, g4⟩) hK
    · gi_wp2_with fail
      have hX0 : w.heap.size + 1 + 1 < D := by omega
      refine leaves_marksQ (B := X.heap.size) [D] Z (MarksAt.nil.cons hD (by simp) hK) fun w' hq' => ?_
      have d0 := (hq'.box g3 (fun hh => by have := List.mem_singleton.1 hh; omega)).cell (k := 0) rfl
      have d1 := (hq'.box g4 (fun hh => by have := List.mem_singleton.1 hh; omega)).cell (k := 0) rfl
      have d2 := (hq'.box g5 (fun hh => by have := List.mem_singleton.1 hh; omega)).cell (k := 0) rfl
      subst hkk
      refine ⟨.tuple #[.pointer none, .int .i64 (k : Nat), .iface 63 (.int .i64 code)], by simp [results, Tryz.f118, go_sem, d0, d1, d2], .inr ⟨?_, ?_⟩, hq'.to_below (fun k hk => by have := List.mem_singleton.1 hk; omega) g6 g6.size⟩
      · unfold tOpen
        rw [hT0.out, Hcut.out, List.dropLast_concat, g2.out]
        exact g1
      · unfold tOpen
        rw [hT0.out, Hcut.out, List.dropLast_concat, g2.out]
    · gi_wp2_with fail
      have hbl := g4.tr.low b g4.tr.ob
      have n1 : ¬ b = w.heap.size := by omega
      have n2 : ¬ b = w.heap.size + 1 := by omega
      have n3 : ¬ b = w.heap.size + 1 + 1 := by omega
      have n4 : ¬ t9 = w.heap.size := by omega
      have n5 : ¬ t9 = w.heap.size + 1 := by omega
      have n6 : ¬ t9 = w.heap.size + 1 + 1 := by omega
      have c0 := g4.r0.cell (k := 0) rfl
      have c1 := g4.r1.cell (k := 0) rfl
      have c2 := g4.r2.cell (k := 0) rfl
      have c9 := g4.r9.cell (k := 0) rfl
      have m3 := g4.tr.ck
      have f0 := g4.r0.free 0
      have f1 := g4.r1.free 0
      have f2 := g4.r2.free 0
      have Hg4 := Lib.hid g4
      clear g4
      gi_wp2_with fail
      gi_region
      have e0 := (((Hg4.out.r0.set 0 (.pointer (some ⟨b, 0, none⟩))).other (a := ⟨w.heap.size + 1, 0, none⟩) (by simp) (.int .i64 T.many)).other (a := ⟨w.heap.size + 1 + 1, 0, none⟩) (by show w.heap.size ≠ w.heap.size + 1 + 1; omega) .nilIface).drew
      have e1 := (((Hg4.out.r1.other (a := ⟨w.heap.size, 0, none⟩) (by simp) (.pointer (some ⟨b, 0, none⟩))).set 0 (.int .i64 T.many)).other (a := ⟨w.heap.size + 1 + 1, 0, none⟩) (by simp) .nilIface).drew
      have e2 := (((Hg4.out.r2.other (a := ⟨w.heap.size, 0, none⟩) (by show w.heap.size + 1 + 1 ≠ w.heap.size; omega) (.pointer (some ⟨b, 0, none⟩))).other (a := ⟨w.heap.size + 1, 0, none⟩) (by simp) (.int .i64 T.many)).set 0 .nilIface).drew
      have hM := ((((MarksAt.nil (B := X.heap.size)).cons (D := D) hD (by simp) hK).setCell ⟨w.heap.size, 0, none⟩ (.pointer (some ⟨b, 0, none⟩))).setCell ⟨w.heap.size + 1, 0, none⟩ (.int .i64 T.many)).setCell ⟨w.heap.size + 1 + 1, 0, none⟩ .nilIface
      have hqZ := ((((QKeeps.refl (fun k => k < W1.heap.size ∧ w.heap.size ≤ k) Z).setCell (p := ⟨w.heap.size, 0, none⟩) ⟨by show w.heap.size < _; omega, Nat.le_refl _⟩ (.pointer (some ⟨b, 0, none⟩))).setCell (p := ⟨w.heap.size + 1, 0, none⟩) ⟨by show w.heap.size + 1 < _; omega, by simp⟩ (.int .i64 T.many)).setCell (p := ⟨w.heap.size + 1 + 1, 0, none⟩) ⟨ha1, by show w.heap.size ≤ w.heap.size + 1 + 1; omega⟩ .nilIface).drewN 1
      generalize hZ3 : (((Z.setCell ⟨w.heap.size, 0, none⟩ (.pointer (some ⟨b, 0, none⟩))).setCell ⟨w.heap.size + 1, 0, none⟩ (.int .i64 T.many)).setCell ⟨w.heap.size + 1 + 1, 0, none⟩ .nilIface) = Z3 at *
      have hbZ : Below w.heap.size w Z := hb1.trans (Hg4.out.bw.mono hb1.size)
      have hbZ3 := hqZ.to_below (B := w.heap.size) (w0 := w) (fun k hk => hk.2) hbZ hbZ.size
      have hT3 := Hg4.out.tr.keeps hqZ (fun k hk hh => by have := Hg4.out.tr.low k hk; omega)
      gi_wp2_with fail
      have hZD : Z3.drew.heap[D]? = some (.deferred (some [])) := (hM.2 D (List.mem_cons_self ..)).2
      refine leaves_marksQ (B := X.heap.size) [D] Z3.drew ⟨hM.1, hM.2⟩ fun w' hq' => ?_
      have hX0 : w.heap.size + 1 + 1 < D := by omega
      have d0 := (hq'.box e0 (fun hh => by have := List.mem_singleton.1 hh; omega)).cell (k := 0) rfl
      have d1 := (hq'.box e1 (fun hh => by have := List.mem_singleton.1 hh; omega)).cell (k := 0) rfl
      have d2 := (hq'.box e2 (fun hh => by have := List.mem_singleton.1 hh; omega)).cell (k := 0) rfl
      have hTw := hT3.keeps hq' (fun k hk hh => by
        obtain rfl := List.mem_singleton.1 hh
        obtain ⟨o, ho, hy⟩ := Hg4.out.ce k hk
        rw [hK] at ho
        injection ho with ho
        subst ho
        cases hy)
      refine ⟨.tuple #[.pointer (some ⟨b, 0, none⟩), .int .i64 T.many, .nilIface], by simp [results, Tryz.f118, go_sem, d0, d1, d2], .inl ⟨?_, b, p, v, A, own, ?_, ?_⟩, hq'.to_below (fun k hk => by have := List.mem_singleton.1 hk; omega) hbZ3 hbZ3.size⟩
      · unfold tOpen
        rw [hT0.out, Hcut.out, List.dropLast_concat, Hend.out]
      · unfold tOpen
        rw [hT0.out, Hcut.out, List.dropLast_concat, Hend.out]
      · unfold tOpen
        rw [hT0.out, Hcut.out, List.dropLast_concat, Hend.out]
        exact ⟨hTw.trl, hTw.bell, hTw.ob, hTw.om, hTw.ov, hTw.oa, hTw.nb, hTw.nv, hTw.lt, fun k hk => Nat.le_trans hb1.size (hTw.low k hk)⟩
end Go.Proofs.YtanlmfnhlldkeaaGreatDoor
