/-
  Contracts: a kernel's Run, Tick and Shown.
-/
import Derived.Test.YtgkanbaboeppfaaDoorKernT
import Derived.Test.YtgkanbaboeppfaaDoorKernE
namespace Go.Proofs.YtgkanbaboeppfaaDoor
open Go.RowKit
set_option maxRecDepth 100000
set_option linter.unusedVariables false

section
variable {role : Nat → Nat} {lo hi : Nat} {w : World} {p : Nat} {K : KF} {L : List (List Int)} {P : List Int} {q : Nat} {T : List Int} {s : KState} {t : Nat}
theorem Run_bad1 (h : KernAt role lo hi w p K L P q T s t) (n : Int) (hn : ¬ (0 ≤ n ∧ n ≤ 300)) :
    Calls Tryd.prog 7 #[.pointer (some ⟨p, 0, none⟩), .int .i64 n] w fun e w' => e = .returned (.iface 55 (.int .i64 1)) ∧ w = w' := by
  have W0 := Lib.hid (fun V => Within3_is n 0 300 false V (decide_eq_false hn))
  clear h hn
  go_enter Tryd.func7, Tryd.ntmps7
  go_wp2_with (with_reducible refine (W0.out _).mono ?_; rintro e w' ⟨rfl, rfl⟩)
  go_ret
  exact ⟨rfl, rfl⟩
theorem Run_bad4 (h : KernAt role lo hi w p K L P q T s t) (n : Int) (hn : 0 ≤ n ∧ n ≤ 300) (ht : n > 300 - (t : Int)) (ht2 : t ≤ 1000) :
    Calls Tryd.prog 7 #[.pointer (some ⟨p, 0, none⟩), .int .i64 n] w fun e w' => e = .returned (.iface 55 (.int .i64 4)) ∧ w = w' := by
  have W0 := Lib.hid (fun V => Within3_is n 0 300 true V (decide_eq_true hn))
  obtain ⟨-, -, -, -, -, x5⟩ := h.words
  have hd : decide (n > 300 - (t : Int)) = true := decide_eq_true ht
  clear h hn
  go_enter Tryd.func7, Tryd.ntmps7
  go_wp2_with (with_reducible refine (W0.out _).mono ?_; rintro e w' ⟨rfl, rfl⟩)
  go_ret
  exact ⟨rfl, rfl⟩

def RunPost (role : Nat → Nat) (lo hi : Nat) (w : World) (p : Nat) (K : KF) (L : List (List Int)) (P : List Int) (q : Nat) (T : List Int) (s' : KState) (t : Nat) (w' : World) : Prop := ∃ role', KernAt role' lo hi w' p K L P q T s' t ∧ RoleTo role w role' w'
set_option maxHeartbeats 4000000 in
theorem Run_ok (h : KernAt role lo hi w p K L P q T s t) (hs : SysOk L P q T) {t' : Nat} (hI : KInv s t') (ht' : t' ≤ 10000) (n : Nat) (hn : n ≤ 300) (hnt : t + n ≤ 300) :
    Calls Tryd.prog 7 #[.pointer (some ⟨p, 0, none⟩), .int .i64 n] w fun e w' => e = .returned .nilIface ∧ RunPost role lo hi w p K L P q T (kturns (sysOps L) (turnsFrom T t n) s) (t + n) w' := by
  have W0 := Lib.hid (fun V => Within3_is (n : Int) 0 300 true V (decide_eq_true (by omega)))
  obtain ⟨-, -, -, -, -, x5⟩ := h.words
  have hd : decide ((n : Int) > 300 - (t : Int)) = false := decide_eq_false (by omega)
  have HS := Lib.hid hs
  have HK := Lib.hid h
  have HI := Lib.hid hI
  clear h hI hs
  go_enter Tryd.func7, Tryd.ntmps7
  go_wp2_with (with_reducible refine (W0.out _).mono ?_; rintro e w' ⟨rfl, rfl⟩)
  go_loopw [18] (fun i wr => ∃ (j : Nat) (rj : Nat → Nat), j ≤ n ∧ i = .int .i64 j ∧ Hid (KernAt rj lo hi wr p K L P q T (kturns (sysOps L) (turnsFrom T t j) s) (t + j)) ∧ Hid (RoleTo role w rj wr)) (fun i _ => n - (intOf i).toNat)
  case atStart => exact ⟨0, role, Nat.zero_le _, rfl, by rw [turnsFrom_zero]; exact HK, Lib.hid (RoleTo.refl _ _)⟩
  case round =>
    clear x5 hd W0
    obtain ⟨j, rj, hj, rfl, HKj, HTj⟩ := hrel
    by_cases hlt : j < n
    · have hK := HKj.out
      have hT4 := HS.out.turns
      obtain ⟨b, off, hA, c0⟩ := turn_cell hK.turns (i := (t + j) % T.length) (Nat.mod_lt _ (by omega))
      have hti := HS.out.turn ((t + j) % T.length) (Nat.mod_lt _ (by omega))
      have hsn := turnsFrom_succ T t j
      have hIj := HI.out.turns HS.out (turnsFrom T t j)
      have hlen : (turnsFrom T t j).length = j := by simp [turnsFrom]
      rw [hlen] at hIj
      obtain ⟨pi, hpi⟩ := Int.eq_ofNat_of_zero_le hti.1
      rw [hpi, Int.toNat_natCast] at hsn
      have hpl : pi < L.length := by omega
      have hst := Lib.hid (fun V (hV : Below wr.heap.size wr V) => (step_any (hK.below hV) HS.out hIj (by omega) (i := pi) hpl).mono fun e w' ⟨he, r2, k2, t2⟩ => (⟨he, r2, Lib.hid k2, Lib.hid ((RoleTo.trans HTj.out (RoleTo.below rj hV)).trans t2), k2.words.2.2.2.2.2, k2.box.free 5⟩ : e = Ending.returned (.tuple #[]) ∧ ∃ r2, Hid (KernAt r2 lo hi w' p K L P q T (kstep (sysOps L) pi (kturns (sysOps L) (turnsFrom T t j) s)) (t + j)) ∧ Hid (RoleTo role w r2 w') ∧ w'.cell? ⟨p, 5, none⟩ = some (Value.int .i64 (t + j : Nat)) ∧ w'.frozen? ⟨p, 5, none⟩ = false))
      obtain ⟨-, -, x2, -, -, x5⟩ := hK.words
      rw [hA] at x2
      rw [hpi] at c0
      have Hsn := Lib.hid hsn
      have htl : T.length ≤ 12 := by omega
      have htj : t + j < 300 := by omega
      have hbj := belowD (Below.refl wr.heap.size wr) 1
      clear hK hsn hIj hti hpi hA HKj HTj
      have HN := Lib.hid (show t + (j + 1) = t + j + 1 by omega)
      have hm2 : (t + j) % T.length < T.length := Nat.mod_lt _ (by omega)
      have htl0 : 0 < T.length := by omega
      generalize t + j = tj at *
      generalize T.length = m at *
      have hm0 : m ≠ 0 := by omega
      have hrem : (tj : Int).tmod m = ((tj % m : Nat) : Int) := by rw [Int.tmod_eq_emod_of_nonneg (by omega)]; rfl
      generalize tj % m = r at *
      go_wp2_with fail
      refine wp_still_tailD 19 (by kernel_rfl) (by kernel_rfl) ?_
      simp only [List.take_succ_cons, List.take_zero, List.drop_succ_cons, List.drop_zero]
      repeat still_step
      refine wpStill_nil ?_
      go_wp2_with (go_at_call 21; with_reducible refine (hst.out _ hbj).mono ?_; rintro e w2 ⟨rfl, r2, k2, t2, q1, q2⟩)
      refine ⟨⟨j + 1, r2, ?ya, ?yb, ?yc, ?ye⟩, ?yd⟩
      case ya => omega
      case yb => go_num
      case yc =>
        refine Lib.hid ?_
        rw [Hsn.out, kturns_snoc, HN.out]
        exact k2.out.setTick (tj + 1)
      case ye => exact Lib.hid (t2.out.setCell (a := ⟨p, 5, none⟩) (by show role p ≠ 0; rw [HK.out.rp]; decide) _)
      case yd => simp [intOf]; omega
    · obtain rfl : j = n := by omega
      go_wp2_with fail
      go_ret
      exact ⟨rfl, rj, HKj.out, HTj.out⟩

theorem Shown_any (h : KernAt role lo hi w p K L P q T s t) {i : Nat} (hil : i < L.length) (hl : L.length ≤ 5) (hsh : (s.parts i).shown.length ≤ 100000) :
    Calls Tryd.prog 8 #[.pointer (some ⟨p, 0, none⟩), .int .i64 i] w fun e w' => (∃ A c, e = .returned (.slice A (s.parts i).shown.length c) ∧ OwnIn w.heap.size w' A 3 (s.parts i).shown) ∧ Below w.heap.size w w' := by
  obtain ⟨-, -, -, x3, -, -⟩ := h.words
  obtain ⟨-, -, ⟨v, e5, r5⟩, -⟩ := h.part hil
  obtain ⟨A, c, rfl, iA⟩ := r5.form
  have W0 := Lib.hid (fun V => Within3_is (i : Int) 0 ((L.length : Int) - 1) true V (decide_eq_true (by omega)))
  have C0 := Lib.hid (CloneI_new (s.parts i).shown (s.parts i).shown.length (by omega) A c w iA (by omega))
  generalize (s.parts i).shown = l at *
  clear h r5 iA
  go_enter Tryd.func8, Tryd.ntmps8
  go_wp2_with (first | (go_at_call 20; with_reducible refine (W0.out _).mono ?_; rintro e w' ⟨rfl, rfl⟩) | (go_at_call 22; with_reducible refine C0.out.mono ?_; rintro e w' ⟨⟨A', c', rfl, o1⟩, hb⟩))
  go_ret
  exact ⟨⟨A', c', rfl, o1⟩, hb⟩
theorem Tick_any (h : KernAt role lo hi w p K L P q T s t) : Calls Tryd.prog 10 #[.pointer (some ⟨p, 0, none⟩)] w fun e w' => e = .returned (.int .i64 t) ∧ w = w' := by
  obtain ⟨-, -, -, -, -, x5⟩ := h.words
  clear h
  go_enter Tryd.func10, Tryd.ntmps10
  go_wp2_with fail
  go_ret
  exact ⟨rfl, rfl⟩
end
end Go.Proofs.YtgkanbaboeppfaaDoor
