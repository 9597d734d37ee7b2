/-
  Plain laws: a kernel saved and loaded is the same.
-/
import Derived.Test.YtanlmfnhlldkeaaGreatDoorKLdN
namespace Go.Proofs.YtanlmfnhlldkeaaGreatDoor
set_option linter.unusedVariables false

/-- Nothing lies beside the system. -/
structure KTidy (n q : Nat) (s : KState) : Prop where
  parts : ∀ i, n ≤ i → s.parts i = ⟨0, fun _ => 0, []⟩
  regs : ∀ i r, 4 ≤ r → (s.parts i).regs r = 0
  held : ∀ j, q ≤ j → s.held j = []
section
variable {n q p j : Nat} {s : KState} {x : KPlace} {l : List Int}
theorem KTidy.new : KTidy n q kNew := ⟨fun _ _ => rfl, fun _ _ _ => rfl, fun _ _ => rfl⟩
theorem KTidy.place (h : KTidy n q s) (hp : p < n) (hx : ∀ r, 4 ≤ r → x.regs r = 0) : KTidy n q (s.place p x) := by
  refine ⟨fun i hi => ?_, fun i r hr => ?_, h.held⟩
  · show upd s.parts p x i = _
    rw [upd_other _ _ (by omega)]
    exact h.parts i hi
  · show (upd s.parts p x i).regs r = 0
    unfold upd; split
    · exact hx r hr
    · exact h.regs i r hr
theorem KTidy.port (h : KTidy n q s) (hj : j < q) : KTidy n q (s.port j l) := by
  refine ⟨h.parts, h.regs, fun i hi => ?_⟩
  show upd s.held j l i = _
  rw [upd_other _ _ (by omega)]
  exact h.held i hi
theorem upd_tidy {f : Nat → Int} {i : Nat} {y : Int} (h : ∀ r, 4 ≤ r → f r = 0) (hi : i < 4) : ∀ r, 4 ≤ r → upd f i y r = 0 := fun r hr => by
  rw [upd_other _ _ (by omega)]; exact h r hr
theorem KTidy.kdo {o : KOp} (h : KTidy n q s) (ho : opOk q o.k o.a o.b = true) (hp : p < n) : KTidy n q (kdo o p s) := by
  have hR := h.regs p
  unfold Go.Proofs.YtanlmfnhlldkeaaGreatDoor.kdo
  dsimp only
  rcases opOk_cases ho with ⟨e, r⟩ | ⟨e, r⟩ | ⟨e, r⟩ | ⟨e, r⟩ | ⟨e, r⟩ | ⟨e, r⟩
  · rw [if_pos e]; exact h.place hp (upd_tidy hR (by omega))
  · rw [if_neg (by omega), if_pos e]; exact h.place hp (upd_tidy hR (by omega))
  · rw [if_neg (by omega), if_neg (by omega), if_pos e]
    refine KTidy.place ?_ hp hR
    split
    · exact h.port (by omega)
    · exact h
  · rw [if_neg (by omega), if_neg (by omega), if_neg (by omega), if_pos e]
    split
    · exact h
    · exact KTidy.place (h.port (by omega)) hp (upd_tidy hR (by omega))
  · rw [if_neg (by omega), if_neg (by omega), if_neg (by omega), if_neg (by omega), if_pos e]
    exact h.place hp hR
  · rw [if_neg (by omega), if_neg (by omega), if_neg (by omega), if_neg (by omega), if_neg (by omega), if_pos e]
    exact h.place hp hR
end
theorem KTidy.step {L : List (List Int)} {P : List Int} {q : Nat} {T : List Int} (hs : SysOk L P q T) {s : KState} {p : Nat} (h : KTidy L.length q s) : KTidy L.length q (kstep (sysOps L) p s) := by
  unfold kstep
  split
  · exact h
  · rename_i o ho
    have hm := sysOps_mem hs (List.mem_of_getElem? ho)
    exact h.kdo (opCode_ok hm.2).1 hm.1
theorem KTidy.turns {L : List (List Int)} {P : List Int} {q : Nat} {T : List Int} (hs : SysOk L P q T) : ∀ (l : List Nat) {s : KState}, KTidy L.length q s → KTidy L.length q (kturns (sysOps L) l s)
  | [], s, h => h
  | p :: l, s, h => KTidy.turns hs l (h.step hs (p := p))
/-- Saved and loaded: the same. -/
theorem load_tidy {s : KState} {n q : Nat} (h : KTidy n q s) (t : Nat) : stOf (stRows s t n q) n q = s := by
  obtain ⟨-, -, g3, g4⟩ := stRows_get s t n q
  have hp : (fun i => if i < n then (⟨(((stRows s t n q).getD (1 + i) []).getD 0 0).toNat, fun r => if r < 4 then ((stRows s t n q).getD (1 + i) []).getD (1 + r) 0 else 0, ((stRows s t n q).getD (1 + i) []).drop 5⟩ : KPlace) else ⟨0, fun _ => 0, []⟩) = s.parts := by
    funext i
    by_cases hi : i < n
    · rw [if_pos hi, g3 i hi]
      have hr := h.regs i
      generalize s.parts i = x at *
      obtain ⟨pc, regs, shown⟩ := x
      have e : (fun r => if r < 4 then (partNums ⟨pc, regs, shown⟩).getD (1 + r) 0 else 0) = regs := by
        funext r
        by_cases h4 : r < 4
        · rw [if_pos h4]
          rcases (by omega : r = 0 ∨ r = 1 ∨ r = 2 ∨ r = 3) with rfl | rfl | rfl | rfl <;> rfl
        · rw [if_neg h4]; exact (hr r (by omega)).symm
      rw [e]
      rfl
    · rw [if_neg hi]; exact (h.parts i (by omega)).symm
  have hh : (fun j => if j < q then (stRows s t n q).getD (1 + n + j) [] else []) = s.held := by
    funext j
    by_cases hj : j < q
    · rw [if_pos hj]; exact g4 j hj
    · rw [if_neg hj]; exact (h.held j (by omega)).symm
  unfold stOf
  rw [hp, hh]
theorem load_tick (s : KState) (t n q : Nat) : tickOf (stRows s t n q) = t := rfl
end Go.Proofs.YtanlmfnhlldkeaaGreatDoor
