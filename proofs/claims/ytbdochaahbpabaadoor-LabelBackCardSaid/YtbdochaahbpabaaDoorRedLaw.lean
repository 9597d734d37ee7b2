/-
  Plain laws on the steps of an order. No program in sight.
-/
import Derived.Test.YtbdochaahbpabaaDoorCnt
import Derived.Test.YtbdochaahbpabaaDoorLatLaw3
namespace Go.Proofs.YtbdochaahbpabaaDoor
set_option linter.unusedVariables false

def aboveOf (c : List Nat) (i : Nat) : Nat := diff (row c i) (2 ^ i)
def redTo (c : List Nat) (s : Nat) (js : List Nat) : Nat := js.foldl (fun s j => diff s (diff (row c j) (2 ^ j))) s
def redRow (c : List Nat) (i : Nat) : Nat := redTo c (aboveOf c i) (bitsOf (aboveOf c i))
def reduceL (c : List Nat) : List Nat := (List.range c.length).map (redRow c)
theorem length_reduceL (c : List Nat) : (reduceL c).length = c.length := by unfold reduceL; simp
theorem row_reduceL {c : List Nat} {i : Nat} (hi : i < c.length) : row (reduceL c) i = redRow c i := by
  unfold row reduceL; rw [List.getElem?_map, List.getElem?_range hi]; rfl
theorem redTo_snoc (c : List Nat) (s : Nat) (js : List Nat) (j : Nat) : redTo c s (js ++ [j]) = diff (redTo c s js) (diff (row c j) (2 ^ j)) := by unfold redTo; rw [List.foldl_append]; rfl
theorem redTo_bit (c : List Nat) (k : Nat) : ∀ (js : List Nat) (s : Nat), (redTo c s js).testBit k = true ↔ s.testBit k = true ∧ ∀ j ∈ js, ¬ ((row c j).testBit k = true ∧ k ≠ j)
  | [], s => by simp [redTo]
  | j :: js, s => by
    have ih := redTo_bit c k js (diff s (diff (row c j) (2 ^ j)))
    have e : redTo c s (j :: js) = redTo c (diff s (diff (row c j) (2 ^ j))) js := rfl
    rw [e, ih, diff_bit, diff_bit, tb_pow]
    simp only [Bool.and_eq_true, Bool.not_eq_true', List.mem_cons, forall_eq_or_imp]
    constructor
    · rintro ⟨⟨h1, h2⟩, h3⟩
      refine ⟨h1, fun ⟨h4, h5⟩ => ?_, h3⟩
      rw [h4] at h2
      simp at h2
      exact h5 h2.symm
    · rintro ⟨h1, h2, h3⟩
      refine ⟨⟨h1, ?_⟩, h3⟩
      cases h4 : (row c j).testBit k with
      | false => rfl
      | true =>
        have : k = j := Classical.byContradiction fun hne => h2 ⟨h4, hne⟩
        subst this; simp
theorem diff_lt {a b n : Nat} (h : a < 2 ^ n) : diff a b < 2 ^ n := by
  refine Nat.lt_pow_two_of_testBit _ fun j hj => ?_
  rw [diff_bit, Nat.testBit_lt_two_pow (Nat.lt_of_lt_of_le h (Nat.pow_le_pow_right (by decide) hj))]
  rfl
theorem redTo_lt {c : List Nat} {n s : Nat} (h : s < 2 ^ n) (js : List Nat) : redTo c s js < 2 ^ n := by
  refine Nat.lt_pow_two_of_testBit _ fun j hj => ?_
  cases e : (redTo c s js).testBit j with
  | false => rfl
  | true =>
    have := ((redTo_bit c j js s).1 e).1
    rw [Nat.testBit_lt_two_pow (Nat.lt_of_lt_of_le h (Nat.pow_le_pow_right (by decide) hj))] at this
    exact this.symm
theorem above_bit (c : List Nat) (i k : Nat) : (aboveOf c i).testBit k = true ↔ (row c i).testBit k = true ∧ k ≠ i := by
  unfold aboveOf
  rw [diff_bit, tb_pow]; simp; intro _; exact ⟨fun h e => h e.symm, fun h e => h e.symm⟩
theorem red_bit {c : List Nat} {n : Nat} (hn : n ≤ 64) (hb : Bd n c) (i k : Nat) :
    (redRow c i).testBit k = true ↔ ((row c i).testBit k = true ∧ k ≠ i) ∧ ∀ j, (row c i).testBit j = true → j ≠ i → (row c j).testBit k = true → k = j := by
  unfold redRow
  have hlt : aboveOf c i < 2 ^ 64 := Nat.lt_of_lt_of_le (diff_lt (hb i)) (Nat.pow_le_pow_right (by decide) hn)
  rw [redTo_bit, above_bit]
  constructor
  · rintro ⟨h1, h2⟩
    refine ⟨h1, fun j h3 h4 h5 => Classical.byContradiction fun hne => ?_⟩
    exact h2 j ((mem_bitsOf hlt).2 ((above_bit c i j).2 ⟨h3, h4⟩)) ⟨h5, hne⟩
  · rintro ⟨h1, h2⟩
    refine ⟨h1, fun j hj ⟨h5, h6⟩ => ?_⟩
    have := (above_bit c i j).1 ((mem_bitsOf hlt).1 hj)
    exact h6 (h2 j this.1 this.2 h5)
theorem bd_reduceL {c : List Nat} (hb : Bd c.length c) : Bd c.length (reduceL c) := fun i => by
  rcases Nat.lt_or_ge i c.length with hi | hi
  · rw [row_reduceL hi]; exact redTo_lt (diff_lt (hb i)) _
  · rw [row_out _ _ (by rw [length_reduceL]; exact hi)]; exact Nat.two_pow_pos _

section
variable {r : List Nat} (h1 : r.length ≤ 12) (h2 : Bd r.length r) (ho : orderB (closed r) = true)
include h1 h2 ho
/-- How many lie between. -/
theorem between_step {d : List Nat} (hd : d = reduceL (closed r)) : ∀ (m i k : Nat), i < r.length → k < r.length → (row (closed r) i).testBit k = true →
    cnt r.length (maskN (fun x => (row (closed r) i).testBit x && (row (closed r) x).testBit k) r.length) ≤ m → (row (closed d) i).testBit k = true := by
  have hcn := length_closed r
  have hcb := closed_lt r h2
  have hdl : d.length = r.length := by rw [hd, length_reduceL, hcn]
  have hinv := closed_inv r
  have hdi := closed_inv d
  have mb := fun (p : Nat → Bool) (x : Nat) => testBit_maskN p r.length x
  intro m
  induction m with
  | zero =>
    intro i k hi hk hik hc
    have hlt := cnt_lt (n := r.length) (s := 0) (t := maskN (fun x => (row (closed r) i).testBit x && (row (closed r) x).testBit k) r.length) (i := i) (by simp) hi (by simp) (by
      rw [mb]; simp [hi, hinv.self i hi, hik])
    omega
  | succ m ih =>
    intro i k hi hk hik hc
    by_cases e : k = i
    · subst e; exact hdi.self k (by omega)
    by_cases hred : (row d i).testBit k = true
    · exact hdi.more i (by omega) k hred
    · have : ∃ j, (row (closed r) i).testBit j = true ∧ j ≠ i ∧ (row (closed r) j).testBit k = true ∧ k ≠ j := by
        refine Classical.byContradiction fun hn => hred ?_
        rw [hd, row_reduceL (by omega), red_bit (n := r.length) (by omega) hcb]
        refine ⟨⟨hik, e⟩, fun j a1 a2 a3 => Classical.byContradiction fun a4 => hn ⟨j, a1, a2, a3, a4⟩⟩
      obtain ⟨j, a1, a2, a3, a4⟩ := this
      have hj : j < r.length := bit_of (hcb i) a1
      have anti := fun x y hx hy => order_anti h1 h2 ho x y hx hy
      have s1 : (row (closed d) i).testBit j = true := by
        refine ih i j hi hj a1 ?_
        have := cnt_lt (n := r.length) (s := maskN (fun x => (row (closed r) i).testBit x && (row (closed r) x).testBit j) r.length) (t := maskN (fun x => (row (closed r) i).testBit x && (row (closed r) x).testBit k) r.length) (i := k)
          (fun x hx hs => by
            rw [mb] at hs ⊢
            simp only [Bool.and_eq_true, decide_eq_true_eq] at hs ⊢
            exact ⟨hx, hs.2.1, hinv.trans x j hx hj hj hs.2.2 k a3⟩) hk
          (by
            rw [mb]
            cases e2 : (row (closed r) k).testBit j with
            | false => simp
            | true => exact absurd (anti k j hk hj e2 a3) a4)
          (by rw [mb]; simp [hk, hik, hinv.self k hk])
        omega
      have s2 : (row (closed d) j).testBit k = true := by
        refine ih j k hj hk a3 ?_
        have := cnt_lt (n := r.length) (s := maskN (fun x => (row (closed r) j).testBit x && (row (closed r) x).testBit k) r.length) (t := maskN (fun x => (row (closed r) i).testBit x && (row (closed r) x).testBit k) r.length) (i := i)
          (fun x hx hs => by
            rw [mb] at hs ⊢
            simp only [Bool.and_eq_true, decide_eq_true_eq] at hs ⊢
            exact ⟨hx, hinv.trans i j hi hj hj a1 x hs.2.1, hs.2.2⟩) hi
          (by
            rw [mb]
            cases e2 : (row (closed r) j).testBit i with
            | false => simp
            | true => exact absurd (anti j i hj hi e2 a1) a2)
          (by rw [mb]; simp [hi, hik, hinv.self i hi])
        omega
      exact hdi.trans i j (by omega) (by omega) (by omega) s1 k s2
/-- THE STEPS HAVE ITS CLOSURE. -/
theorem closed_reduce : closed (reduceL (closed r)) = closed r := by
  have hcn := length_closed r
  have hcb := closed_lt r h2
  have hinv := closed_inv r
  have hdl : (reduceL (closed r)).length = r.length := by rw [length_reduceL, hcn]
  refine row_ext (by rw [length_closed, hdl, hcn]) fun i hi => ?_
  rw [length_closed, hdl] at hi
  refine sub_antisymm ?_ fun k hk => ?_
  · refine (closed_inv (reduceL (closed r))).least (closed r) (fun x hx => ?_) i (by omega)
    rw [hdl] at hx
    refine ⟨hinv.self x hx, fun k hk => ?_, fun j hj hxj => hinv.trans x j hx (by omega) (by omega) hxj⟩
    rw [row_reduceL (by omega), red_bit (n := r.length) (by omega) hcb] at hk
    exact hk.1.1
  · exact between_step h1 h2 ho rfl _ i k hi (bit_of (hcb i) hk) hk (Nat.le_refl _)
omit ho in
/-- NO STEP CAN BE SPARED. -/
theorem reduce_spare {i j : Nat} (hi : i < r.length) (hj : (row (reduceL (closed r)) i).testBit j = true) {e : List Nat} (he : e.length = r.length)
    (her : ∀ x, row e x = if x = i then diff (row (reduceL (closed r)) i) (2 ^ j) else row (reduceL (closed r)) x) : closed e ≠ closed r := by
  have hcn := length_closed r
  have hcb := closed_lt r h2
  have hinv := closed_inv r
  have hdl : (reduceL (closed r)).length = r.length := by rw [length_reduceL, hcn]
  have hred := fun (x : Nat) (hx : x < r.length) (k : Nat) => show (row (reduceL (closed r)) x).testBit k = true ↔ ((row (closed r) x).testBit k = true ∧ k ≠ x) ∧ ∀ y, (row (closed r) x).testBit y = true → y ≠ x → (row (closed r) y).testBit k = true → k = y from by
    rw [row_reduceL (c := closed r) (i := x) (by omega)]
    exact red_bit (n := r.length) (c := closed r) (by omega) hcb x k
  have hij := (hred i hi j).1 hj
  have hjn : j < r.length := bit_of (hcb i) hij.1.1
  have hin : i < (closed r).length := by omega
  have hs : ∀ x, row ((closed r).set i (diff (row (closed r) i) (2 ^ j))) x = if x = i then diff (row (closed r) i) (2 ^ j) else row (closed r) x := fun x => by
    rw [row_set _ _ _ _ hin]
    by_cases h : x = i
    · subst h; simp
    · rw [if_neg h, if_neg (fun e => h e.symm)]
  have db : ∀ k, (diff (row (closed r) i) (2 ^ j)).testBit k = true ↔ (row (closed r) i).testBit k = true ∧ k ≠ j := fun k => by
    rw [diff_bit, tb_pow]; simp; intro _; exact ⟨fun h e => h e.symm, fun h e => h e.symm⟩
  intro hce
  have key := (closed_inv e).least ((closed r).set i (diff (row (closed r) i) (2 ^ j))) (fun x hx => by
    rw [he] at hx
    rw [hs x]
    by_cases hxi : x = i
    · subst hxi
      rw [if_pos rfl]
      refine ⟨(db x).2 ⟨hinv.self x hx, fun e => hij.1.2 e.symm⟩, fun k hk => ?_, fun y hy hxy z hz => ?_⟩
      · rw [her x, if_pos rfl, diff_bit, tb_pow] at hk
        simp only [Bool.and_eq_true, Bool.not_eq_true', decide_eq_false_iff_not] at hk
        exact (db k).2 ⟨((hred x hx k).1 hk.1).1.1, fun e => hk.2 e.symm⟩
      · rw [he] at hy
        obtain ⟨b1, b2⟩ := (db y).1 hxy
        rw [hs y] at hz
        by_cases hyx : y = x
        · subst hyx; rw [if_pos rfl] at hz; exact hz
        · rw [if_neg hyx] at hz
          refine (db z).2 ⟨hinv.trans x y hx hy hy b1 z hz, fun e => ?_⟩
          subst e
          exact b2 (hij.2 y b1 hyx hz).symm
    · rw [if_neg hxi]
      refine ⟨hinv.self x hx, fun k hk => ?_, fun y hy hxy z hz => ?_⟩
      · rw [her x, if_neg hxi] at hk
        exact ((hred x hx k).1 hk).1.1
      · rw [he] at hy
        rw [hs y] at hz
        by_cases hyi : y = i
        · subst hyi
          rw [if_pos rfl] at hz
          exact hinv.trans x y hx hy hy hxy z ((db z).1 hz).1
        · rw [if_neg hyi] at hz
          exact hinv.trans x y hx hy hy hxy z hz) i (by omega) j (by rw [hce]; exact hij.1.1)
  rw [hs i, if_pos rfl] at key
  exact ((db j).1 key).2 rfl
end
theorem sub_pow {x j : Nat} (h : x.testBit j = true) : diff x (2 ^ j) + 2 ^ j = x := by
  have e : diff x (2 ^ j) ||| 2 ^ j = x := Nat.eq_of_testBit_eq fun k => by
    rw [tb_or, diff_bit, tb_pow]
    by_cases hk : j = k
    · subst hk; simp [h]
    · simp [hk]
  have hb : (diff x (2 ^ j)).testBit j = false := by rw [diff_bit, tb_pow]; simp
  have := add_pow_or (diff x (2 ^ j)) j hb
  omega
end Go.Proofs.YtbdochaahbpabaaDoor
