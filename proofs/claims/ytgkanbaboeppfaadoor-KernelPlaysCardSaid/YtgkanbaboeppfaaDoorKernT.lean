/-
  Contract: a kernel's step, whatever the op.
-/
import Derived.Test.YtgkanbaboeppfaaDoorKernSend
namespace Go.Proofs.YtgkanbaboeppfaaDoor
open Go.RowKit
set_option maxRecDepth 100000
set_option linter.unusedVariables false

section
variable {role : Nat → Nat} {lo hi : Nat} {w : World} {p : Nat} {K : KF} {L : List (List Int)} {P : List Int} {q : Nat} {T : List Int} {s : KState} {t : Nat}
theorem step_any (h : KernAt role lo hi w p K L P q T s t) (hs : SysOk L P q T) {t' : Nat} (hI : KInv s t') (ht : t' < 2 ^ 20) {i : Nat} (hil : i < L.length) :
    Calls Tryd.prog 21 #[.pointer (some ⟨p, 0, none⟩), .int .i64 i] w fun e w' => e = .returned (.tuple #[]) ∧ StepPost role lo hi w p K L P q T (kstep (sysOps L) i s) t w' := by
  obtain ⟨_, _, _, ni, _, _, _, hli, _, _⟩ := h.progs.get hil
  have hd3 : (L.getD i []).length / 3 = ni := by rw [hli, Nat.mul_div_cancel _ (by decide)]
  have h12 := hs.short i hil
  have hget : (sysOps L i)[(s.parts i).pc]? = if (s.parts i).pc < ni then some (opAt (L.getD i []) (s.parts i).pc) else none := opsOf_get hli _
  by_cases hn : (s.parts i).pc < ni
  · rw [if_pos hn] at hget
    have hcode := hs.op i hil (s.parts i).pc (by omega)
    obtain ⟨hok, hf, hto⟩ := opCode_ok hcode
    have hst : kstep (sysOps L) i s = kdo (opAt (L.getD i []) (s.parts i).pc) i s := by unfold kstep; rw [hget]
    rw [hst]
    have hR := hI.regs i
    have nat_of : ∀ x : Int, 0 ≤ x → x ≤ 999999 → ∃ n : Nat, x = n ∧ n ≤ 999999 := fun x h1 h2 => ⟨x.toNat, by omega, by omega⟩
    have hS := hI.shown i
    rcases opOk_cases hok with ⟨e, r1, r2⟩ | ⟨e, r1, r2⟩ | ⟨e, r1, r2⟩ | ⟨e, r1, r2⟩ | ⟨e, r1, r2⟩ | ⟨e, r1⟩
    · obtain ⟨a, ha⟩ := Int.eq_ofNat_of_zero_le r1.1
      obtain ⟨b, hb⟩ := Int.eq_ofNat_of_zero_le r2.1
      have := step_put h hil (pc := (s.parts i).pc) (a := a) (b := b) rfl (by omega) (by omega) e ha hb (by omega) (by omega)
      unfold kdo
      dsimp only
      rw [if_pos e, ha, hb, Int.toNat_natCast]; exact this
    · obtain ⟨a, ha⟩ := Int.eq_ofNat_of_zero_le r1.1
      obtain ⟨b, hb⟩ := Int.eq_ofNat_of_zero_le r2.1
      obtain ⟨ra, hra, la⟩ := nat_of _ (hR a).1 (hR a).2
      obtain ⟨rb, hrb, lb⟩ := nat_of _ (hR b).1 (hR b).2
      have := step_plus h hil (pc := (s.parts i).pc) (a := a) (b := b) rfl (by omega) (by omega) e ha hb (by omega) (by omega) hra hrb la lb
      unfold kdo
      dsimp only
      rw [if_neg (by omega), if_pos e, ha, hb, Int.toNat_natCast, Int.toNat_natCast, hra, hrb]
      rwa [show (((ra + rb) % 1000000 : Nat) : Int) = ((ra : Int) + rb) % 1000000 by omega] at this
    · obtain ⟨a, ha⟩ := Int.eq_ofNat_of_zero_le r1.1
      obtain ⟨b, hb⟩ := Int.eq_ofNat_of_zero_le r2.1
      obtain ⟨ra, hra, la⟩ := nat_of _ (hR a).1 (hR a).2
      unfold kdo
      dsimp only
      rw [if_neg (by omega), if_neg (by omega), if_pos e, ha, hb, Int.toNat_natCast, Int.toNat_natCast, hra]
      split
      · rename_i h4
        exact step_send h hil (pc := (s.parts i).pc) (a := a) (b := b) rfl (by omega) (by omega) e ha hb (by omega) (by omega) hra h4
      · rename_i h4
        exact step_full h hil (pc := (s.parts i).pc) (a := a) (b := b) rfl (by omega) (by omega) e ha hb (by omega) (by omega) (by omega) (by have := (hI.held b).1; omega)
    · obtain ⟨a, ha⟩ := Int.eq_ofNat_of_zero_le r1.1
      obtain ⟨b, hb⟩ := Int.eq_ofNat_of_zero_le r2.1
      unfold kdo
      dsimp only
      rw [if_neg (by omega), if_neg (by omega), if_neg (by omega), if_pos e, ha, hb, Int.toNat_natCast, Int.toNat_natCast]
      have hH := hI.held b
      cases hl : s.held b with
      | nil => exact step_hush h hil (pc := (s.parts i).pc) (a := a) (b := b) rfl (by omega) (by omega) e ha hb (by omega) (by omega) hl
      | cons m l =>
        rw [hl] at hH
        obtain ⟨mn, rfl, lm⟩ := nat_of m (hH.2 m (List.mem_cons_self ..)).1 (hH.2 m (List.mem_cons_self ..)).2
        exact step_get h hil (pc := (s.parts i).pc) (a := a) (b := b) rfl (by omega) (by omega) e ha hb (by omega) (by omega) hl (by have := hH.1; simp at this; omega)
    · obtain ⟨a, ha⟩ := Int.eq_ofNat_of_zero_le r1.1
      obtain ⟨b, hb⟩ := Int.eq_ofNat_of_zero_le r2.1
      obtain ⟨rb, hrb, lb⟩ := nat_of _ (hR b).1 (hR b).2
      unfold kdo
      dsimp only
      rw [if_neg (by omega), if_neg (by omega), if_neg (by omega), if_neg (by omega), if_pos e, ha, hb, Int.toNat_natCast, Int.toNat_natCast, hrb]
      by_cases h0 : rb = 0
      · rw [if_neg (by simp [h0])]
        exact step_stay h hil (pc := (s.parts i).pc) (a := a) (b := b) rfl (by omega) (by omega) e ha hb (by omega) (by omega) hrb h0
      · rw [if_pos (by omega)]
        exact step_jump h hil (pc := (s.parts i).pc) (a := a) (b := b) rfl (by omega) (by omega) e ha hb (by omega) (by omega) hrb h0
    · obtain ⟨a, ha⟩ := Int.eq_ofNat_of_zero_le r1.1
      obtain ⟨ra, hra, la⟩ := nat_of _ (hR a).1 (hR a).2
      unfold kdo
      dsimp only
      rw [if_neg (by omega), if_neg (by omega), if_neg (by omega), if_neg (by omega), if_neg (by omega), if_pos e, ha, Int.toNat_natCast, hra]
      exact step_show h hil (pc := (s.parts i).pc) (a := a) (b := (opAt (L.getD i []) (s.parts i).pc).b) rfl (by omega) (by omega) e ha rfl (by omega) hra (by omega)
  · rw [if_neg hn] at hget
    have hst : kstep (sysOps L) i s = s := by unfold kstep; rw [hget]
    rw [hst]
    exact step_none h hil (by omega)
end
end Go.Proofs.YtgkanbaboeppfaaDoor
