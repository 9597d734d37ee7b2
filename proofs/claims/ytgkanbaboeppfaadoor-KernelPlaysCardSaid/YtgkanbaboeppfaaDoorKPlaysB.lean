/-
  What the calls of KernelPlays give, by the two kernels side by side.
-/
import Derived.Test.YtgkanbaboeppfaaDoorKPlaysA
namespace Go.Proofs.YtgkanbaboeppfaaDoor
open Go.RowKit
set_option maxRecDepth 100000
set_option linter.unusedVariables false

theorem IntsAt.tail {w : World} {b off : Nat} {l : List Int} (h : IntsAt w (some ⟨b, off, none⟩) l) (i k : Nat) (hk : k = i ∨ l.length ≤ i) : IntsAt w (some ⟨b, off + k, none⟩) (l.drop i) := fun hne => by
  obtain ⟨b', off', e, hc⟩ := h (by rintro rfl; simp at hne)
  injection e with e
  injection e with e1 e2
  subst e1
  subst e2
  refine ⟨b, off + k, rfl, fun j u hj => ?_⟩
  rw [List.getElem?_drop] at hj
  have hlt := (List.getElem?_eq_some_iff.1 hj).1
  have := hc _ u hj
  rw [Nat.add_assoc, show k + j = i + j by omega]
  exact this
theorem run_ints_from (g og n c k : Nat) (h1 : k ≤ n) (h2 : n ≤ c) : ∃ k' c', (k' = k ∨ n ≤ k) ∧ ∀ V : World, (Instr.sliceAt 24 (.slice (some ⟨g, og, none⟩) n c) (some (.int .i64 k)) none none).run Tryd.prog V = .ok (.slice (some ⟨g, og + k', none⟩) (n - k) c') V := by
  have e := Tryd.underlying24
  obtain ⟨i, z, hi, hz, hsize, -⟩ := eInts.info
  have n1 : ¬ n < k := by omega
  by_cases hc : c = k
  · refine ⟨0, c - k, .inr (by omega), fun V => ?_⟩
    subst hc
    simp [Instr.sliceAt, Instr.slice, Instr.sliceBounds, run_underlying e, sizeOf, typeInfo, hi, go_sem, n1]
  · refine ⟨k, c - k, .inl rfl, fun V => ?_⟩
    simp [Instr.sliceAt, Instr.slice, Instr.sliceBounds, run_underlying e, sizeOf, typeInfo, hi, hsize, go_sem, n1, hc]

section
variable {w0 w w' : World} {lo0 lo hi p G : Nat} {K : KF} {L : List (List Int)} {P : List Int} {q : Nat} {T : List Int} {Ap Ao At Pp Hp : Option Addr} {cp co ct cP cH t u : Nat}
theorem Run_play (h : PlayR w0 lo0 lo hi p G K L P q T Ap Ao At cp co ct Pp Hp cP cH t u w) (hs : SysOk L P q T) (n : Nat) (hn : n ≤ 300) (hnt : t + n ≤ 300) :
    Calls Tryd.prog 7 #[.pointer (some ⟨p, 0, none⟩), .int .i64 n] w fun e w' => e = .returned .nilIface ∧ PlayR w0 lo0 lo hi p G K L P q T Ap Ao At cp co ct Pp Hp cP cH (t + n) u w' := by
  obtain ⟨role, hk, h0, hr⟩ := h.role
  refine (Run_ok hk hs (sAt_inv hs t) (by omega) n hn hnt).mono ?_
  rintro e w' ⟨he, role', hk', rt⟩
  rw [sAt_add] at hk'
  exact ⟨he, h.ran h0 hk hr hk' rt⟩
theorem Run_play1 (h : PlayR w0 lo0 lo hi p G K L P q T Ap Ao At cp co ct Pp Hp cP cH t u w) (n : Int) (hn : ¬ (0 ≤ n ∧ n ≤ 300)) :
    Calls Tryd.prog 7 #[.pointer (some ⟨p, 0, none⟩), .int .i64 n] w fun e w' => e = .returned (.iface 55 (.int .i64 1)) ∧ PlayR w0 lo0 lo hi p G K L P q T Ap Ao At cp co ct Pp Hp cP cH t u w' := by
  obtain ⟨role, hk, h0, hr⟩ := h.role
  exact (Run_bad1 hk n hn).mono fun e w' ⟨he, hw⟩ => ⟨he, hw ▸ h⟩
theorem Run_play4 (h : PlayR w0 lo0 lo hi p G K L P q T Ap Ao At cp co ct Pp Hp cP cH t u w) (n : Int) (hn : 0 ≤ n ∧ n ≤ 300) (ht : n > 300 - (t : Int)) (ht2 : t ≤ 1000) :
    Calls Tryd.prog 7 #[.pointer (some ⟨p, 0, none⟩), .int .i64 n] w fun e w' => e = .returned (.iface 55 (.int .i64 4)) ∧ PlayR w0 lo0 lo hi p G K L P q T Ap Ao At cp co ct Pp Hp cP cH t u w' := by
  obtain ⟨role, hk, h0, hr⟩ := h.role
  exact (Run_bad4 hk n hn ht ht2).mono fun e w' ⟨he, hw⟩ => ⟨he, hw ▸ h⟩
theorem Tick_play (h : PlayR w0 lo0 lo hi p G K L P q T Ap Ao At cp co ct Pp Hp cP cH t u w) : Calls Tryd.prog 10 #[.pointer (some ⟨p, 0, none⟩)] w fun e w' => e = .returned (.int .i64 t) ∧ w = w' := by
  obtain ⟨role, hk, h0, hr⟩ := h.role
  exact Tick_any hk
theorem Save_play (h : PlayR w0 lo0 lo hi p G K L P q T Ap Ao At cp co ct Pp Hp cP cH t u w) (hs : SysOk L P q T) (ht : t ≤ 300) (hP : Pow10 lo0 w0) (hz : lo0 ≤ w0.heap.size) :
    Calls Tryd.prog 9 #[.pointer (some ⟨p, 0, none⟩)] w fun e w' => e = .returned (.string ⟨(saveH (sAt L T t) t L.length q).toArray⟩) ∧ Below w.heap.size w w' := by
  obtain ⟨role, hk, h0, hr⟩ := h.role
  exact Save_any hk (sAt_inv hs t) (by omega) ht hs.parts.2 hs.few (hP.next h.old (by have := h.size; omega) hz)
theorem RSave_play (h : PlayR w0 lo0 lo hi p G K L P q T Ap Ao At cp co ct Pp Hp cP cH t u w) (hs : SysOk L P q T) (hu : u ≤ 300) :
    Calls Tryd.prog 17 #[.agg (rkV Ap Ao At cp co ct L.length q T.length u Pp Hp cP cH)] w fun e w' => e = .returned (.string ⟨(saveH (sAt L T u) u L.length q).toArray⟩) ∧ Below w.heap.size w w' := by
  obtain ⟨role, hk, h0, hr⟩ := h.role
  exact RSave_any hr.parts.any hr.held.any (sAt_inv hs u) (by omega) hu hs.parts.2 hs.few
theorem Shown_play (h : PlayR w0 lo0 lo hi p G K L P q T Ap Ao At cp co ct Pp Hp cP cH t u w) (hs : SysOk L P q T) (ht : t ≤ 300) {j : Nat} (hj : j < L.length) :
    Calls Tryd.prog 8 #[.pointer (some ⟨p, 0, none⟩), .int .i64 j] w fun e w' => (∃ A c, e = .returned (.slice A ((sAt L T t).parts j).shown.length c) ∧ IntsAt w' A ((sAt L T t).parts j).shown) ∧ Below w.heap.size w w' := by
  obtain ⟨role, hk, h0, hr⟩ := h.role
  have hl := ((sAt_inv hs t).shown j).1
  refine (Shown_any hk hj hs.parts.2 (by omega)).mono ?_
  rintro e w' ⟨⟨A, c, he, ho⟩, hb⟩
  exact ⟨⟨A, c, he, ho.intsIn.at_⟩, hb⟩
theorem Shown_none (h : PlayR w0 lo0 lo hi p G K L P q T Ap Ao At cp co ct Pp Hp cP cH t u w) (hl : L.length ≤ 5) (i : Int) (hi : ¬ (0 ≤ i ∧ i ≤ (L.length : Int) - 1)) :
    Calls Tryd.prog 8 #[.pointer (some ⟨p, 0, none⟩), .int .i64 i] w fun e w' => e = .returned (.slice none 0 0) ∧ w = w' := by
  obtain ⟨role, hk, h0, hr⟩ := h.role
  obtain ⟨-, -, -, x3, -, -⟩ := hk.words
  have W0 := Lib.hid (fun V => Within3_is i 0 ((L.length : Int) - 1) false V (decide_eq_false hi))
  clear hk hr hi h
  go_enter Tryd.func8, Tryd.ntmps8
  go_wp2_with (go_at_call 20; with_reducible refine (W0.out _).mono ?_; rintro e w' ⟨rfl, rfl⟩)
  go_ret
  exact ⟨rfl, rfl⟩
/-- A part's row. -/
theorem PlayR.row (h : PlayR w0 lo0 lo hi p G K L P q T Ap Ao At cp co ct Pp Hp cP cH t u w) {j : Nat} (hj : j < L.length) :
    ∃ (bp op bm om ni ci : Nat), Pp = some ⟨bp, op, none⟩ ∧ w.cell? ⟨bp, op + j, none⟩ = some (.slice (some ⟨bm, om, none⟩) ni ci) ∧ ni ≤ ci ∧ ni = ((sAt L T u).parts j).shown.length + 5 ∧ IntsAt w (some ⟨bm, om, none⟩) (partNums ((sAt L T u).parts j)) := by
  obtain ⟨role, hk, h0, hr⟩ := h.role
  obtain ⟨bp, op, Ai, ni, ci, rfl, c0, hli, -, hin⟩ := hr.parts.get (i := j) (by rw [partRows_len]; exact hj)
  rw [partRows_get _ hj] at hli hin
  obtain ⟨bm, om, rfl, -⟩ := hin.at_ (by intro e; have := partNums_len ((sAt L T u).parts j); rw [e, List.length_nil] at this; omega)
  obtain ⟨b', o', A', n', c', e1, -, hc, hle⟩ := hr.capsP j hj
  injection e1 with e1
  injection e1 with e1 e2
  subst e1; subst e2
  rw [c0] at hc
  injection hc with hc
  injection hc with hc1 hc2 hc3
  subst hc1; subst hc2; subst hc3
  exact ⟨bp, op, bm, om, ni, ci, rfl, c0, hle, by rw [partNums_len] at hli; omega, hin.at_⟩
end
end Go.Proofs.YtgkanbaboeppfaaDoor
