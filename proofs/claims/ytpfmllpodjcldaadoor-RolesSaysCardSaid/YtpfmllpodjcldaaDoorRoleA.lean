/-
  Contracts: roles.all, roles.tasks.
-/
import Derived.Test.YtpfmllpodjcldaaDoorRelB
import Derived.Test.YtpfmllpodjcldaaDoorBits
import Derived.Test.YtpfmllpodjcldaaDoorMarks
import Derived.Test.YtpfmllpodjcldaaDoorLoopMarks
import Derived.Test.YtpfmllpodjcldaaDoorTail
import Derived.Test.YtpfmllpodjcldaaDoorOver
namespace Go.Proofs.YtpfmllpodjcldaaDoor
open Go.RowKit
attribute [local go_sem] Oper.semAt_some
attribute [local simp, local go_sem] wide_fn
set_option maxRecDepth 100000
set_option linter.unusedVariables false

/-- All of some sets together. -/
def orAll (f : Nat → Nat) (l : List Nat) : Nat := l.foldl (fun a i => a ||| f i) 0
theorem orAll_snoc (f : Nat → Nat) (l : List Nat) (x : Nat) : orAll f (l ++ [x]) = orAll f l ||| f x := by unfold orAll; rw [List.foldl_append]; rfl
theorem orAll_nil (f : Nat → Nat) : orAll f [] = 0 := rfl
theorem orAll_lt {f : Nat → Nat} {k : Nat} (h : ∀ i, f i < 2 ^ k) (l : List Nat) : orAll f l < 2 ^ k := by
  unfold orAll
  have : ∀ (l : List Nat) (a : Nat), a < 2 ^ k → l.foldl (fun a i => a ||| f i) a < 2 ^ k := fun l => by
    induction l with
    | nil => intro a ha; exact ha
    | cons x l ih => intro a ha; exact ih _ (Nat.or_lt_two_pow ha (h x))
  exact this l 0 (Nat.two_pow_pos _)
theorem orAll_bit {f : Nat → Nat} {l : List Nat} {j : Nat} : (orAll f l).testBit j = true ↔ ∃ i ∈ l, (f i).testBit j = true := by
  unfold orAll
  have : ∀ (l : List Nat) (a : Nat), (l.foldl (fun a i => a ||| f i) a).testBit j = true ↔ a.testBit j = true ∨ ∃ i ∈ l, (f i).testBit j = true := fun l => by
    induction l with
    | nil => intro a; simp
    | cons x l ih => intro a; simp only [List.foldl_cons, ih, tb_or, Bool.or_eq_true, List.mem_cons, exists_eq_or_imp, or_assoc]
  rw [this l 0]; simp
/-- All roles of a set, with those below. -/
def allS (r : List Nat) (s : Nat) : Nat := orAll (row (closed r)) (bitsOf s)
/-- All tasks of a set of roles. -/
def taskS (r M : List Nat) (s : Nat) : Nat := orAll (row M) (bitsOf (allS r s))

section
variable {w : World} {Au Aa Am : Option Addr} {nu nm cu ca cm : Nat} {few most : Int} {r M : List Nat}
set_option maxHeartbeats 4000000 in
theorem allR_any (hlen : r.length ≤ 8) (hb : Bd r.length r) (hA : IntsAt w Aa (castL r)) (hT : Tab w) {s : Nat} (hs : s < 2 ^ r.length) :
    Calls Tryd.prog 53 #[.agg #[.slice Au nu cu, .slice Aa r.length ca, .slice Am nm cm, .int .i64 few, .int .i64 most], .int .i64 s] w fun e w' => e = .returned (.int .i64 (allS r s : Nat)) ∧ Below w.heap.size w w' := by
  refine (callsIn_wide (n := 8)).1 ?_
  have hg := hT.lt
  have hs256 : s < 256 := Nat.lt_of_lt_of_le hs (Nat.pow_le_pow_right (by decide) hlen)
  have hbc : Bd r.length (closed r) := hb.closedTo _
  have hbc8 : ∀ i, row (closed r) i < 2 ^ 8 := fun i => Nat.lt_of_lt_of_le (hbc i) (Nat.pow_le_pow_right (by decide) hlen)
  have HC := Lib.hid (fun V (hV : Below w.heap.size w V) => (Closure_ok r (by omega) hb Aa ca V (hA.below hV)).mono fun e w' ⟨B, c', he, hi, hx⟩ => (⟨B, c', he, hi, hx, hV.trans (hx.mono hV.size)⟩ : ∃ B c', e = Ending.returned (.tuple #[.slice B r.length c', .nilIface]) ∧ IntsAt w' B (castL (closed r)) ∧ Below V.heap.size V w' ∧ Below w.heap.size w w'))
  have Hbit := Lib.hid (fun x (hx : s.testBit x = true) => bit_below hs hx)
  have Hlt := Lib.hid (fun pre => orAll_lt (k := 8) hbc8 pre)
  have Hres := Lib.hid (show allS r s = orAll (row (closed r)) (bitsOf s) from rfl)
  have Hrow := Lib.hid hbc8
  have hlc : (closed r).length = r.length := length_closed r
  have Hlc := Lib.hid hlc
  clear hs hb hbc hbc8 hA hlc
  generalize allS r s = res at *
  generalize closed r = cl at *
  generalize r.length = n at *
  refine callsIn_of_wp_marks Tryd.func53 rfl trivial ?_ rfl
  simp only [Tryd.ntmps53, List.size_toArray, List.length_cons, List.length_nil, Nat.reduceAdd, Nat.reduceSub, Array.replicate_succ, Array.replicate_zero, List.push_toArray, List.append_toArray, List.nil_append, List.cons_append]
  gi_wp2_with fail
  have hb0 : Below w.heap.size w (w.alloc (.cells #[.slice Au nu cu, .slice Aa n ca, .slice Am nm cm, .int .i64 few, .int .i64 most] 47)) := (Below.refl _ _).alloc (Nat.le_refl _) _
  refine (callsIn_wide.2 (HC.out _ hb0)).mono ?_
  rintro e w1 ⟨B, c', rfl, hi, hb1, hbw⟩
  have hs1 := hbw.size
  clear HC hb0 hb1
  gi_wp2_with fail
  have hbl : Below w.heap.size w ((w1.alloc (.cells #[.slice B n c'] 36)).alloc (.cells #[.int .i64 0] 3)) := (hbw.alloc hs1 _).alloc (by simp; omega) _
  have hx1 := (BoxN.new w1 36 #[.slice B n c']).alloc (.cells #[.int .i64 0] 3)
  have hx2 := BoxN.new (w1.alloc (.cells #[.slice B n c'] 36)) 3 #[.int .i64 0]
  have h1W := ((Below.refl w1.heap.size w1).alloc (Nat.le_refl _) (.cells #[.slice B n c'] 36)).alloc (by simp) (.cells #[.int .i64 0] 3)
  have Hi1 := Lib.hid hi
  have hsz : ((w1.alloc (.cells #[.slice B n c'] 36)).alloc (.cells #[.int .i64 0] 3)).heap.size = w1.heap.size + 1 + 1 := by simp
  simp only [World.size_alloc] at hx2
  generalize hWW : (w1.alloc (.cells #[.slice B n c'] 36)).alloc (.cells #[.int .i64 0] 3) = W at *
  have Hsz := Lib.hid hsz
  clear hsz hWW hi
  refine (callsIn_wide.2 (Bits_any (s : Nat) _)).mono ?_
  rintro e w4 ⟨rfl, rfl⟩
  have hbX : Below W.heap.size W (W.alloc (.cells #[.int .i64 (s : Nat)] 3)) := (Below.refl _ _).alloc (Nat.le_refl _) _
  have hxd : BoxN (W.alloc (.cells #[.int .i64 (s : Nat)] 3)) W.heap.size 3 #[.int .i64 (s : Nat)] := BoxN.new W _ _
  have hsX : (W.alloc (.cells #[.int .i64 (s : Nat)] 3)).heap.size = W.heap.size + 1 := by simp
  gi_wp2_with fail
  generalize W.alloc (.cells #[.int .i64 (s : Nat)] 3) = X at *
  have hy1 := hx1.all hbX
  have hy2 := hx2.all hbX
  have h1X := h1W.trans (hbX.mono h1W.size)
  have hblX := hbl.trans (hbX.mono hbl.size)
  have hTX : Tab X := hT.next hblX
  have hszW := Hsz.out
  obtain ⟨p1, hp1⟩ : ∃ p1, w1.heap.size = p1 := ⟨_, rfl⟩
  rw [hp1] at hy1 hy2 hs1 hszW
  rw [hp1]
  have hpX : p1 + 1 + 1 < X.heap.size := by omega
  have hpW : p1 + 1 < W.heap.size := by omega
  clear hszW
  clear hx1 hx2 hbX hbl hT h1W hsX
  refine wp_bits1 (by decide) 8 (B := W.heap.size) (s := s) rfl (hxd.cell rfl) (by omega) hTX
    (fun pre Y => BoxN Y (p1 + 1) 3 #[.int .i64 (orAll (row cl) pre : Nat)] ∧ Below (p1 + 1) X Y)
    (fun _ _ _ => False)
    (fun _ Y Y' _ hs hg hr => ⟨hs.1.own hg (fun r e => (hr r e).2), below_own hs.2 (by omega) (by omega) hg hr⟩)
    (fun _ _ _ _ _ hs _ _ => hs)
    ⟨hy2, Below.refl _ _⟩ ?assign ?body ?done ?stop
  case assign =>
    intro l x Y K hK
    gi_wp2
    exact hK
  case body =>
    rintro l pre x Y hx hlen' ⟨hYo, hY⟩
    have hxn : x < n := Hbit.out x hx
    have hY1 := hy1.below hY (by omega)
    have a1 : Y.cell? ⟨p1, 0, none⟩ = some (.slice B n c') := hY1.cell rfl
    have a2 : Y.cell? ⟨p1 + 1, 0, none⟩ = some (.int .i64 (orAll (row cl) pre : Nat)) := hYo.cell rfl
    have f2 := hYo.free 0
    obtain ⟨b, off, hB, hc1⟩ := Hi1.out.row (k := x) (by rw [Hlc.out]; exact hxn)
    subst hB
    have hbp : b < w1.heap.size := block_lt hc1
    have hcX := (h1X.cell (p := ⟨b, off + x, none⟩) hbp).trans hc1
    have hcY := (hY.cell (p := ⟨b, off + x, none⟩) (show b < p1 + 1 by omega)).trans hcX
    have hlY := hYo.lt
    have hor := bits_or_nat (orAll (row cl) pre) (row cl x) (by have := Hlt.out pre; omega) (by have := Hrow.out x; omega)
    have Hsn := Lib.hid (orAll_snoc (row cl) pre x)
    rw [← Hsn.out] at hor
    have Hset := Lib.hid (fun (o : Nat) (ho : o = orAll (row cl) (pre ++ [x])) => show BoxN (Y.setCell ⟨p1 + 1, 0, none⟩ (.int .i64 o)).drew (p1 + 1) 3 #[.int .i64 (orAll (row cl) (pre ++ [x]) : Nat)] from by
      subst ho; exact (hYo.set 0 (.int .i64 (orAll (row cl) (pre ++ [x]) : Nat))).drew)
    obtain ⟨o2, ho2⟩ : ∃ o2, o2 = orAll (row cl) (pre ++ [x]) := ⟨_, rfl⟩
    rw [← ho2] at hor
    have Ho2 := Lib.hid ho2
    clear ho2
    have hszY := hY.size
    have hxi : (x : Int) < n := by omega
    simp only [List.setIfInBounds_toArray, List.set_cons_succ, List.set_cons_zero]
    clear hc1 hcX hY1 hy1 hy2 Hi1
    generalize orAll (row cl) pre = o1 at *
    generalize row cl x = rx at *
    gi_wp2_with fail
    refine wpIn_round_still_tail 6 (by kernel_rfl) (by kernel_rfl) (by kernel_rfl) ?_
    simp only [List.take_succ_cons, List.take_zero, List.drop_succ_cons, List.drop_zero]
    repeat still_step
    refine wpStill_nil ?_
    go_wp2_with fail
    simp only [OnlyNormal]
    gi_wp2_with fail
    exact ⟨((KeepsOthers.setCell _ _ _).trans (keepsOthers_below ((Below.refl _ _).drew))).from _, ((Below.refl _ Y).setCell (p := ⟨p1 + 1, 0, none⟩) (by show _ ≤ p1 + 1; omega) _).drew, Hset.out _ Ho2.out, (hY.setCell (p := ⟨p1 + 1, 0, none⟩) (Nat.le_refl _) _).drew⟩
  case done =>
    rintro D Z hD ⟨hZo, hZ⟩ hK
    rw [← Hres.out] at hZo
    have a2 : Z.cell? ⟨p1 + 1, 0, none⟩ = some (.int .i64 (res : Nat)) := hZo.cell rfl
    gi_wp2_with fail
    refine leaves_marks (B := w.heap.size) [D] Z (MarksAt.nil.cons (by have := hblX.size; omega) (by simp) hK) fun w' hsc hb' _ => ?_
    refine ⟨.int .i64 (res : Nat), by simp [results, Tryd.f53, go_sem], rfl, (hblX.trans (hZ.mono (by omega))).trans hb'⟩
  case stop =>
    rintro D cd pre Z hD _ h hK
    exact h.elim
theorem allS_lt (hlen : r.length ≤ 8) (hb : Bd r.length r) (s : Nat) : allS r s < 2 ^ r.length := orAll_lt (hb.closedTo _) _
set_option maxHeartbeats 4000000 in
theorem tasksR_any (hlen : r.length ≤ 8) (hb : Bd r.length r) (hA : IntsAt w Aa (castL r)) (hM : M.length = r.length) (hMb : ∀ i, row M i < 2 ^ 10) (hMi : IntsAt w Am (castL M)) (hT : Tab w) {s : Nat} (hs : s < 2 ^ r.length) :
    Calls Tryd.prog 57 #[.agg #[.slice Au nu cu, .slice Aa r.length ca, .slice Am M.length cm, .int .i64 few, .int .i64 most], .int .i64 s] w fun e w' => e = .returned (.int .i64 (taskS r M s : Nat)) ∧ Below w.heap.size w w' := by
  refine (callsIn_wide (n := 8)).1 ?_
  have hg := hT.lt
  have HC := Lib.hid (fun V (hV : Below w.heap.size w V) => (allR_any (nu := nu) (Au := Au) (cu := cu) (ca := ca) (nm := M.length) (Am := Am) (cm := cm) (few := few) (most := most) hlen hb (hA.below hV) (hT.next hV) hs).mono fun e w' ⟨he, hx⟩ => (⟨he, hx, hV.trans (hx.mono hV.size)⟩ : _ ∧ Below V.heap.size V w' ∧ Below w.heap.size w w'))
  have hal := allS_lt hlen hb s
  have ha256 : allS r s < 256 := Nat.lt_of_lt_of_le hal (Nat.pow_le_pow_right (by decide) hlen)
  have Hbit := Lib.hid (fun x (hx : (allS r s).testBit x = true) => show x < M.length by rw [hM]; exact bit_below hal hx)
  have Hlt := Lib.hid (fun pre => orAll_lt (k := 10) hMb pre)
  have Hres := Lib.hid (show taskS r M s = orAll (row M) (bitsOf (allS r s)) from rfl)
  have Hrow := Lib.hid hMb
  have Hi1 := Lib.hid hMi
  clear hs hb hA hMb hMi hal hM
  generalize taskS r M s = res at *
  generalize allS r s = t at *
  generalize r.length = n at *
  obtain ⟨nm, hnm⟩ : ∃ nm, M.length = nm := ⟨_, rfl⟩
  rw [hnm] at Hbit HC ⊢
  have Hnm := Lib.hid hnm
  clear hnm
  refine callsIn_of_wp_marks Tryd.func57 rfl trivial ?_ rfl
  simp only [Tryd.ntmps57, List.size_toArray, List.length_cons, List.length_nil, Nat.reduceAdd, Nat.reduceSub, Array.replicate_succ, Array.replicate_zero, List.push_toArray, List.append_toArray, List.nil_append, List.cons_append]
  gi_wp2_with fail
  have hb0 : Below w.heap.size w ((w.alloc (.cells #[.slice Au nu cu, .slice Aa n ca, .slice Am nm cm, .int .i64 few, .int .i64 most] 47)).alloc (.cells #[.int .i64 0] 3)) := ((Below.refl _ _).alloc (Nat.le_refl _) _).alloc (by simp) _
  have hx1 := (BoxN.new w 47 #[.slice Au nu cu, .slice Aa n ca, .slice Am nm cm, .int .i64 few, .int .i64 most]).alloc (.cells #[.int .i64 0] 3)
  have hx2 := BoxN.new (w.alloc (.cells #[.slice Au nu cu, .slice Aa n ca, .slice Am nm cm, .int .i64 few, .int .i64 most] 47)) 3 #[.int .i64 0]
  have hsz : ((w.alloc (.cells #[.slice Au nu cu, .slice Aa n ca, .slice Am nm cm, .int .i64 few, .int .i64 most] 47)).alloc (.cells #[.int .i64 0] 3)).heap.size = w.heap.size + 1 + 1 := by simp
  simp only [World.size_alloc] at hx2
  have HC2 := Lib.hid (HC.out _ hb0)
  clear HC
  generalize (w.alloc (.cells #[.slice Au nu cu, .slice Aa n ca, .slice Am nm cm, .int .i64 few, .int .i64 most] 47)).alloc (.cells #[.int .i64 0] 3) = W0 at *
  obtain ⟨p1, hp1⟩ : ∃ p1, w.heap.size = p1 := ⟨_, rfl⟩
  rw [hp1] at hx1 hx2 hsz
  rw [hp1]
  refine (callsIn_wide.2 HC2.out).mono ?_
  rintro e w1 ⟨rfl, hb1, hbw⟩
  have hs1 := hb1.size
  have hz1 := hx1.all hb1
  have hz2 := hx2.all hb1
  have hpW : p1 + 1 < w1.heap.size := by omega
  clear HC2 hb0 hx1 hx2 hsz hb1 hs1
  gi_wp2_with fail
  refine (callsIn_wide.2 (Bits_any (t : Nat) _)).mono ?_
  rintro e w4 ⟨rfl, rfl⟩
  have hbX : Below w1.heap.size w1 (w1.alloc (.cells #[.int .i64 (t : Nat)] 3)) := (Below.refl _ _).alloc (Nat.le_refl _) _
  have hxd : BoxN (w1.alloc (.cells #[.int .i64 (t : Nat)] 3)) w1.heap.size 3 #[.int .i64 (t : Nat)] := BoxN.new w1 _ _
  have hsX : (w1.alloc (.cells #[.int .i64 (t : Nat)] 3)).heap.size = w1.heap.size + 1 := by simp
  gi_wp2_with fail
  generalize w1.alloc (.cells #[.int .i64 (t : Nat)] 3) = X at *
  have hy1 := hz1.all hbX
  have hy2 := hz2.all hbX
  have hblX := hbw.trans (hbX.mono hbw.size)
  have hTX : Tab X := hT.next hblX
  have hpX : p1 + 1 < X.heap.size := by omega
  have hpw : p1 = w.heap.size := hp1.symm
  have Hpw := Lib.hid hpw
  have hgp : 2 < p1 := by omega
  clear hz1 hz2 hbX hbw hT hsX hpw hp1 hg
  refine wp_bits1 (by decide) 6 (B := w1.heap.size) (s := t) rfl (hxd.cell rfl) (by omega) hTX
    (fun pre Y => BoxN Y (p1 + 1) 3 #[.int .i64 (orAll (row M) pre : Nat)] ∧ Below (p1 + 1) X Y)
    (fun _ _ _ => False)
    (fun _ Y Y' _ hs hg hr => ⟨hs.1.own hg (fun r e => (hr r e).2), below_own hs.2 (by omega) (by omega) hg hr⟩)
    (fun _ _ _ _ _ hs _ _ => hs)
    ⟨hy2, Below.refl _ _⟩ ?assign ?body ?done ?stop
  case assign =>
    intro l x Y K hK
    gi_wp2
    exact hK
  case body =>
    rintro l pre x Y hx hlen' ⟨hYo, hY⟩
    have hxn : x < nm := by have := Hbit.out x hx; exact this
    have hY1 := hy1.below hY (by omega)
    have a1 : Y.cell? ⟨p1, 2, none⟩ = some (.slice Am nm cm) := hY1.cell rfl
    have a2 : Y.cell? ⟨p1 + 1, 0, none⟩ = some (.int .i64 (orAll (row M) pre : Nat)) := hYo.cell rfl
    have f2 := hYo.free 0
    obtain ⟨b, off, hB, hc1⟩ := Hi1.out.row (k := x) (by rw [Hnm.out]; exact hxn)
    subst hB
    have hbp : b < w.heap.size := block_lt hc1
    have hcX := (hblX.cell (p := ⟨b, off + x, none⟩) hbp).trans hc1
    have hcY := (hY.cell (p := ⟨b, off + x, none⟩) (show b < p1 + 1 by have := Hpw.out; omega)).trans hcX
    have hlY := hYo.lt
    have hor := bits_or_nat (orAll (row M) pre) (row M x) (by have := Hlt.out pre; omega) (by have := Hrow.out x; omega)
    have Hsn := Lib.hid (orAll_snoc (row M) pre x)
    rw [← Hsn.out] at hor
    have Hset := Lib.hid (fun (o : Nat) (ho : o = orAll (row M) (pre ++ [x])) => show BoxN (Y.setCell ⟨p1 + 1, 0, none⟩ (.int .i64 o)).drew (p1 + 1) 3 #[.int .i64 (orAll (row M) (pre ++ [x]) : Nat)] from by
      subst ho; exact (hYo.set 0 (.int .i64 (orAll (row M) (pre ++ [x]) : Nat))).drew)
    obtain ⟨o2, ho2⟩ : ∃ o2, o2 = orAll (row M) (pre ++ [x]) := ⟨_, rfl⟩
    rw [← ho2] at hor
    have Ho2 := Lib.hid ho2
    clear ho2
    have hszY := hY.size
    have hxi : (x : Int) < nm := by omega
    simp only [List.setIfInBounds_toArray, List.set_cons_succ, List.set_cons_zero]
    clear hc1 hcX hY1 hy1 hy2 Hi1
    generalize orAll (row M) pre = o1 at *
    generalize row M x = rx at *
    gi_wp2_with fail
    refine wpIn_round_still_tail 7 (by kernel_rfl) (by kernel_rfl) (by kernel_rfl) ?_
    simp only [List.take_succ_cons, List.take_zero, List.drop_succ_cons, List.drop_zero]
    repeat still_step
    refine wpStill_nil ?_
    go_wp2_with fail
    simp only [OnlyNormal]
    gi_wp2_with fail
    exact ⟨((KeepsOthers.setCell _ _ _).trans (keepsOthers_below ((Below.refl _ _).drew))).from _, ((Below.refl _ Y).setCell (p := ⟨p1 + 1, 0, none⟩) (by show _ ≤ p1 + 1; omega) _).drew, Hset.out _ Ho2.out, (hY.setCell (p := ⟨p1 + 1, 0, none⟩) (Nat.le_refl _) _).drew⟩
  case done =>
    rintro D Z hD ⟨hZo, hZ⟩ hK
    rw [← Hres.out] at hZo
    have a2 : Z.cell? ⟨p1 + 1, 0, none⟩ = some (.int .i64 (res : Nat)) := hZo.cell rfl
    gi_wp2_with fail
    have hpw := Hpw.out
    refine leaves_marks (B := w.heap.size) [D] Z (MarksAt.nil.cons (by have := hblX.size; omega) (by simp) hK) fun w' hsc hb' _ => ?_
    refine ⟨.int .i64 (res : Nat), by simp [results, Tryd.f57, go_sem], rfl, ?_⟩
    exact (hblX.trans (hZ.mono (by omega))).trans hb'
  case stop =>
    rintro D cd pre Z hD _ h hK
    exact h.elim
end
end Go.Proofs.YtpfmllpodjcldaaDoor
