/-
  Plain laws: a kernel loaded from a text.
-/
import Derived.Test.YtanlmfnhlldkeaaGreatDoorKerC
import Derived.Test.YtanlmfnhlldkeaaGreatDoorTrL
namespace Go.Proofs.YtanlmfnhlldkeaaGreatDoor
set_option linter.unusedVariables false

def wordsK : List (List UInt8) → Except Nat (List Int)
  | [] => .ok []
  | x :: r => match numV x with
    | none => .error 2
    | some n => if 999999 < n then .error 1 else match wordsK r with
      | .error k => .error k
      | .ok l => .ok ((n : Int) :: l)
/-- A line's numbers. -/
def rowK (x : List UInt8) : Except Nat (List Int) := if x = [] then .ok [] else wordsK (cutL 32 x)
def rowsK : List (List UInt8) → Except Nat (List (List Int))
  | [] => .ok []
  | x :: r => match rowK x with
    | .error k => .error k
    | .ok l => match rowsK r with
      | .error k => .error k
      | .ok L => .ok (l :: L)
/-- All lines', and that the last one ends. -/
def textK (a : List (List UInt8)) (z : List UInt8) : Except Nat (List (List Int)) := match rowsK a with
  | .error k => .error k
  | .ok L => if z = [] then .ok L else .error 2
def partC (R : List (List Int)) (i : Nat) : Nat := if (R.getD (1 + i) []).length < 5 then 3 else if 12 < (R.getD (1 + i) []).getD 0 0 then 1 else 0
def heldC (R : List (List Int)) (n j : Nat) : Nat := if 4 < (R.getD (1 + n + j) []).length then 4 else 0
/-- What is wrong with the rows. -/
def shapeK (R : List (List Int)) (n q : Nat) : Nat :=
  if R.length ≠ 1 + n + q ∨ (R.getD 0 []).length ≠ 1 then 3
  else if 300 < (R.getD 0 []).getD 0 0 then 1
  else if firstC (partC R) n 0 ≠ 0 then firstC (partC R) n 0 else firstC (heldC R n) q 0
def loadK (t : List UInt8) (n q : Nat) : Except Nat (List (List Int)) :=
  if 4000 < t.length then .error 4 else match textK (cutL 10 t).dropLast ((cutL 10 t).getLastD []) with
    | .error k => .error k
    | .ok R => if shapeK R n q = 0 then .ok R else .error (shapeK R n q)
theorem wordsK_snoc : ∀ {a : List (List UInt8)} {l : List Int} {x : List UInt8} {n : Nat}, wordsK a = .ok l → numV x = some n → n ≤ 999999 → wordsK (a ++ [x]) = .ok (l ++ [(n : Int)])
  | [], l, x, n, h, hx, hn => by
    injection h with h; subst h
    rw [List.nil_append, wordsK, hx]
    dsimp only
    rw [if_neg (by omega)]
    rfl
  | y :: a, l, x, n, h, hx, hn => by
    rw [wordsK] at h
    rw [List.cons_append, wordsK]
    split at h
    · cases h
    · rename_i m hm
      split at h
      · cases h
      · rename_i hm9
        split at h
        · cases h
        · rename_i l' hl'
          injection h with h
          subst h
          try rw [hm]
          try dsimp only
          rw [if_neg hm9, wordsK_snoc hl' hx hn]
          rfl
theorem wordsK_bad : ∀ {a : List (List UInt8)} {l : List Int} {x : List UInt8} {k : Nat} (r : List (List UInt8)), wordsK a = .ok l → ((numV x = none ∧ k = 2) ∨ ∃ n, numV x = some n ∧ 999999 < n ∧ k = 1) → wordsK (a ++ x :: r) = .error k
  | [], l, x, k, r, h, hx => by
    rw [List.nil_append, wordsK]
    rcases hx with ⟨hx, rfl⟩ | ⟨n, hx, hn, rfl⟩
    · rw [hx]
    · rw [hx]; dsimp only; rw [if_pos hn]
  | y :: a, l, x, k, r, h, hx => by
    rw [wordsK] at h
    rw [List.cons_append, wordsK]
    split at h
    · cases h
    · rename_i m hm
      split at h
      · cases h
      · rename_i hm9
        split at h
        · cases h
        · rename_i l' hl'
          try rw [hm]
          try dsimp only
          rw [if_neg hm9, wordsK_bad r hl' hx]
theorem rowsK_snoc : ∀ {a : List (List UInt8)} {L : List (List Int)} {x : List UInt8} {l : List Int}, rowsK a = .ok L → rowK x = .ok l → rowsK (a ++ [x]) = .ok (L ++ [l])
  | [], L, x, l, h, hx => by
    injection h with h; subst h
    rw [List.nil_append, rowsK, hx]
    rfl
  | y :: a, L, x, l, h, hx => by
    rw [rowsK] at h
    rw [List.cons_append, rowsK]
    split at h
    · cases h
    · rename_i m hm
      split at h
      · cases h
      · rename_i l' hl'
        injection h with h
        subst h
        try rw [hm]
        try dsimp only
        rw [rowsK_snoc hl' hx]
        rfl
theorem rowsK_bad : ∀ {a : List (List UInt8)} {L : List (List Int)} {x : List UInt8} {k : Nat} (r : List (List UInt8)), rowsK a = .ok L → rowK x = .error k → rowsK (a ++ x :: r) = .error k
  | [], L, x, k, r, h, hx => by rw [List.nil_append, rowsK, hx]
  | y :: a, L, x, k, r, h, hx => by
    rw [rowsK] at h
    rw [List.cons_append, rowsK]
    split at h
    · cases h
    · rename_i m hm
      split at h
      · cases h
      · rename_i l' hl'
        try rw [hm]
        try dsimp only
        rw [rowsK_bad r hl' hx]
def Nums6 (l : List Int) : Prop := ∀ x ∈ l, 0 ≤ x ∧ x ≤ 999999
theorem wordsK_ok : ∀ {a : List (List UInt8)} {l : List Int}, wordsK a = .ok l → Nums6 l ∧ l.length = a.length
  | [], l, h => by injection h with h; subst h; exact ⟨fun x hx => (List.not_mem_nil hx).elim, rfl⟩
  | y :: a, l, h => by
    rw [wordsK] at h
    split at h
    · cases h
    · rename_i m hm
      split at h
      · cases h
      · rename_i hm9
        split at h
        · cases h
        · rename_i l' hl'
          injection h with h
          subst h
          obtain ⟨h1, h2⟩ := wordsK_ok hl'
          refine ⟨fun x hx => ?_, by simp [h2]⟩
          rcases List.mem_cons.1 hx with rfl | hx
          · omega
          · exact h1 x hx
theorem rowK_ok {x : List UInt8} {l : List Int} (h : rowK x = .ok l) : Nums6 l ∧ l.length ≤ x.length + 1 := by
  unfold rowK at h
  split at h
  · injection h with h; subst h; exact ⟨fun x hx => (List.not_mem_nil hx).elim, Nat.zero_le _⟩
  · obtain ⟨h1, h2⟩ := wordsK_ok h
    refine ⟨h1, ?_⟩
    rw [h2, cutL_length]
    have := List.count_le_length (a := (32 : UInt8)) (l := x)
    omega
theorem rowsK_ok : ∀ {a : List (List UInt8)} {L : List (List Int)}, rowsK a = .ok L → L.length = a.length ∧ ∀ l ∈ L, Nums6 l ∧ ∃ x ∈ a, l.length ≤ x.length + 1
  | [], L, h => by injection h with h; subst h; exact ⟨rfl, fun l hl => (List.not_mem_nil hl).elim⟩
  | y :: a, L, h => by
    rw [rowsK] at h
    split at h
    · cases h
    · rename_i m hm
      split at h
      · cases h
      · rename_i l' hl'
        injection h with h
        subst h
        obtain ⟨h1, h2⟩ := rowsK_ok hl'
        refine ⟨by simp [h1], fun l hl => ?_⟩
        rcases List.mem_cons.1 hl with rfl | hl
        · exact ⟨(rowK_ok hm).1, y, List.mem_cons_self .., (rowK_ok hm).2⟩
        · obtain ⟨g1, x, g2, g3⟩ := h2 l hl
          exact ⟨g1, x, List.mem_cons_of_mem _ g2, g3⟩
theorem cutL_le' (d : UInt8) : ∀ {t x : List UInt8}, x ∈ cutL d t → x.length ≤ t.length
  | [], x, h => by rw [cutL, List.mem_singleton] at h; subst h; exact Nat.le_refl _
  | c :: t, x, h => by
    unfold cutL at h
    split at h
    · rcases List.mem_cons.1 h with rfl | h
      · exact Nat.zero_le _
      · exact Nat.le_succ_of_le (cutL_le' d h)
    · split at h
      · rename_i e; exact absurd e (cutL_ne d t)
      · rename_i y r e
        rcases List.mem_cons.1 h with rfl | h
        · have := cutL_le' d (t := t) (x := y) (by rw [e]; exact List.mem_cons_self ..)
          simp; omega
        · exact Nat.le_succ_of_le (cutL_le' d (by rw [e]; exact List.mem_cons_of_mem _ h))
/-- The state in such rows. -/
def stOf (R : List (List Int)) (n q : Nat) : KState :=
  ⟨fun i => if i < n then ⟨((R.getD (1 + i) []).getD 0 0).toNat, fun r => if r < 4 then (R.getD (1 + i) []).getD (1 + r) 0 else 0, (R.getD (1 + i) []).drop 5⟩ else ⟨0, fun _ => 0, []⟩,
   fun j => if j < q then R.getD (1 + n + j) [] else []⟩
/-- The rows of a state. -/
def stRows (s : KState) (t n q : Nat) : List (List Int) := [(t : Int)] :: ((List.range n).map (fun i => partNums (s.parts i)) ++ (List.range q).map s.held)
def tickOf (R : List (List Int)) : Nat := ((R.getD 0 []).getD 0 0).toNat
theorem nums_getD {l : List Int} (h : Nums6 l) (i : Nat) : 0 ≤ l.getD i 0 ∧ l.getD i 0 ≤ 999999 := by
  rcases Nat.lt_or_ge i l.length with hi | hi
  · rw [List.getD_eq_getElem?_getD, List.getElem?_eq_getElem hi]; exact h _ (List.getElem_mem hi)
  · rw [List.getD_eq_getElem?_getD, List.getElem?_eq_none hi]; decide
structure RowsOk (R : List (List Int)) (n q : Nat) : Prop where
  len : R.length = 1 + n + q
  one : (R.getD 0 []).length = 1
  tick : (R.getD 0 []).getD 0 0 ≤ 300
  part : ∀ i, i < n → 5 ≤ (R.getD (1 + i) []).length ∧ (R.getD (1 + i) []).getD 0 0 ≤ 12
  held : ∀ j, j < q → (R.getD (1 + n + j) []).length ≤ 4
theorem shape_ok {R : List (List Int)} {n q : Nat} (h : shapeK R n q = 0) : RowsOk R n q := by
  unfold shapeK at h
  split at h
  · cases h
  · rename_i h1
    split at h
    · cases h
    · rename_i h2
      split at h
      · rename_i h3; exact absurd h h3
      · rename_i h3
        have h3 : firstC (partC R) n 0 = 0 := Classical.not_not.1 h3
        refine ⟨by omega, by omega, by omega, fun i hi => ?_, fun j hj => ?_⟩
        · have := firstC_zero h3 i (Nat.zero_le _) (by omega)
          unfold partC at this
          split at this
          · cases this
          · split at this
            · cases this
            · omega
        · have := firstC_zero h j (Nat.zero_le _) (by omega)
          unfold heldC at this
          split at this
          · cases this
          · omega
theorem stOf_part {R : List (List Int)} {n q : Nat} (h : RowsOk R n q) (hR : ∀ l ∈ R, Nums6 l) {i : Nat} (hi : i < n) : partNums ((stOf R n q).parts i) = R.getD (1 + i) [] := by
  obtain ⟨h5, h12⟩ := h.part i hi
  have hm : Nums6 (R.getD (1 + i) []) := by
    rw [List.getD_eq_getElem?_getD, List.getElem?_eq_getElem (by rw [h.len]; omega)]
    exact hR _ (List.getElem_mem _)
  unfold stOf
  dsimp only
  rw [if_pos hi]
  generalize R.getD (1 + i) [] = l at *
  match l, h5, hm with
  | a :: b :: c :: d :: e :: l, _, hm =>
    have ha := (hm a (List.mem_cons_self ..)).1
    show [((a.toNat : Nat) : Int)] ++ [b, c, d, e] ++ l = _
    rw [Int.toNat_of_nonneg ha]
    rfl
theorem stOf_held (R : List (List Int)) (n : Nat) {q j : Nat} (hj : j < q) : (stOf R n q).held j = R.getD (1 + n + j) [] := if_pos hj
theorem stOf_inv {R : List (List Int)} {n q u : Nat} (h : RowsOk R n q) (hR : ∀ l ∈ R, Nums6 l ∧ l.length ≤ u) : KInv (stOf R n q) u := by
  have hg : ∀ i, Nums6 (R.getD i []) ∧ (R.getD i []).length ≤ u := fun i => by
    rcases Nat.lt_or_ge i R.length with hi | hi
    · rw [List.getD_eq_getElem?_getD, List.getElem?_eq_getElem hi]; exact hR _ (List.getElem_mem hi)
    · rw [List.getD_eq_getElem?_getD, List.getElem?_eq_none hi]; exact ⟨fun x hx => (List.not_mem_nil hx).elim, Nat.zero_le _⟩
  refine ⟨fun p => ?_, fun p r => ?_, fun p => ?_, fun j => ?_⟩
  · unfold stOf
    dsimp only
    split
    · rename_i hp; have := (h.part p hp).2; dsimp only; omega
    · exact Nat.zero_le _
  · unfold stOf
    dsimp only
    split
    · dsimp only
      split
      · exact nums_getD (hg _).1 _
      · (show (0 : Int) ≤ 0 ∧ (0 : Int) ≤ 999999; decide)
    · (show (0 : Int) ≤ 0 ∧ (0 : Int) ≤ 999999; decide)
  · unfold stOf
    dsimp only
    split
    · dsimp only
      refine ⟨by have := (hg (1 + p)).2; rw [List.length_drop]; omega, fun x hx => (hg (1 + p)).1 x (List.mem_of_mem_drop hx)⟩
    · exact ⟨Nat.zero_le _, fun x hx => (List.not_mem_nil hx).elim⟩
  · unfold stOf
    dsimp only
    split
    · rename_i hj; exact ⟨h.held j hj, (hg _).1⟩
    · exact ⟨Nat.zero_le _, fun x hx => (List.not_mem_nil hx).elim⟩
theorem loadK_ok {t : List UInt8} {n q : Nat} {R : List (List Int)} (h : loadK t n q = .ok R) : RowsOk R n q ∧ ∀ l ∈ R, Nums6 l ∧ l.length ≤ 4001 := by
  unfold loadK at h
  split at h
  · cases h
  · rename_i h4
    split at h
    · cases h
    · rename_i R' hR'
      split at h
      · rename_i hs
        injection h with h
        subst h
        refine ⟨shape_ok hs, fun l hl => ?_⟩
        unfold textK at hR'
        split at hR'
        · cases hR'
        · rename_i L hL
          split at hR'
          · injection hR' with hR'
            subst hR'
            obtain ⟨h1, x, hx, h2⟩ := (rowsK_ok hL).2 l hl
            have := cutL_le' 10 (List.dropLast_subset _ hx)
            exact ⟨h1, by omega⟩
          · cases hR'
      · cases h
/-- What was saved is read as it was. -/
theorem cutL_snoc {d : UInt8} {b : List UInt8} (hb : d ∉ b) : ∀ a : List UInt8, cutL d (a ++ d :: b) = cutL d a ++ [b]
  | [] => by rw [List.nil_append, cutL_hit, cutL_none hb]; rfl
  | c :: a => by
    have ih := cutL_snoc hb a
    by_cases hc : c = d
    · subst hc
      rw [List.cons_append, cutL_hit, cutL_hit, ih]
      rfl
    · cases e : cutL d a with
      | nil => exact absurd e (cutL_ne d a)
      | cons x r =>
        rw [e, List.cons_append] at ih
        rw [List.cons_append, cutL_more hc ih, cutL_more hc e]
        rfl
theorem wTo_row {l : List Int} (h : Nums6 l) : ∀ k, k < l.length → wTo l (k + 1) ≠ [] ∧ wordsK (cutL 32 (wTo l (k + 1))) = .ok (l.take (k + 1)) ∧ 10 ∉ wTo l (k + 1)
  | 0, hk => by
    obtain ⟨h0, h1⟩ := nums_getD h 0
    obtain ⟨m, hm⟩ : ∃ m : Nat, l.getD 0 0 = m := ⟨(l.getD 0 0).toNat, by omega⟩
    have e : wTo l 1 = Lib.itoa (m : Int) := by rw [wTo, wTo, if_neg (by decide), hm]; rfl
    have ht : l.take 1 = [(m : Int)] := by
      match l, hk with
      | x :: l, _ => rw [← hm]; rfl
    rw [Nat.zero_add, e, cutL_none (itoa_free m isD_32), ht]
    refine ⟨fun e2 => ?_, wordsK_snoc (a := []) rfl (numV_itoa (by omega)) (by omega), itoa_free m isD_10⟩
    have := numV_itoa (n := m) (by omega)
    rw [e2] at this
    rw [numV_iff.2 fun hh => hh.1 rfl] at this
    cases this
  | k + 1, hk => by
    obtain ⟨h0, h1⟩ := nums_getD h (k + 1)
    obtain ⟨m, hm⟩ : ∃ m : Nat, l.getD (k + 1) 0 = m := ⟨(l.getD (k + 1) 0).toNat, by omega⟩
    obtain ⟨g1, g2, g3⟩ := wTo_row h k (by omega)
    have e : wTo l (k + 1 + 1) = wTo l (k + 1) ++ 32 :: Lib.itoa (m : Int) := by rw [wTo, if_pos (Nat.zero_lt_succ k), hm]; rfl
    have ht : l.take (k + 1 + 1) = l.take (k + 1) ++ [(m : Int)] := by
      rw [List.take_add_one, List.getElem?_eq_getElem hk, ← hm, List.getD_eq_getElem?_getD, List.getElem?_eq_getElem hk]
      rfl
    rw [e, cutL_snoc (itoa_free m isD_32), ht]
    refine ⟨by simp, wordsK_snoc g2 (numV_itoa (by omega)) (by omega), ?_⟩
    rw [List.mem_append, List.mem_cons]
    rintro (hh | hh | hh)
    · exact g3 hh
    · exact absurd hh (by decide)
    · exact itoa_free m isD_10 hh
theorem rowK_words {l : List Int} (h : Nums6 l) : rowK (wordsT l) = .ok l ∧ 10 ∉ wordsT l := by
  unfold wordsT
  cases hl : l.length with
  | zero => obtain rfl := List.length_eq_zero_iff.1 hl; exact ⟨rfl, List.not_mem_nil⟩
  | succ k =>
    obtain ⟨g1, g2, g3⟩ := wTo_row h k (by omega)
    refine ⟨?_, g3⟩
    unfold rowK
    rw [if_neg g1, g2, List.take_of_length_le (by omega)]
theorem flatE_one (x : List UInt8) : flatE [x] = x ++ [10] := by rw [flatE_cons, flatE_nil]
theorem saveP_flat (s : KState) (t : Nat) : ∀ i, saveP s t i = flatE ((([(t : Int)] :: (List.range i).map fun j => partNums (s.parts j))).map wordsT)
  | 0 => by rw [saveP]; simp [flatE]
  | i + 1 => by
    rw [saveP, saveP_flat s t i, List.range_succ, List.map_append, ← List.cons_append, List.map_append, flatE_append, List.append_assoc]
    exact congrArg _ (flatE_one _).symm
theorem saveH_flat (s : KState) (t n : Nat) : ∀ j, saveH s t n j = flatE ((stRows s t n j).map wordsT)
  | 0 => by rw [saveH, saveP_flat]; unfold stRows; rw [List.range_zero, List.map_nil, List.append_nil]
  | j + 1 => by
    have e : stRows s t n (j + 1) = stRows s t n j ++ [s.held j] := by
      unfold stRows
      rw [List.range_succ, List.map_append, ← List.append_assoc]
      rfl
    rw [saveH, saveH_flat s t n j, e, List.map_append, flatE_append, List.append_assoc]
    exact congrArg _ (flatE_one _).symm
theorem stRows_nums {s : KState} {t n q u : Nat} (h : KInv s u) (ht : t ≤ 300) : ∀ l ∈ stRows s t n q, Nums6 l := by
  intro l hl
  unfold stRows at hl
  rcases List.mem_cons.1 hl with rfl | hl
  · intro x hx; rw [List.mem_singleton] at hx; omega
  · rcases List.mem_append.1 hl with hl | hl
    · obtain ⟨i, _, rfl⟩ := List.mem_map.1 hl
      intro x hx
      unfold partNums at hx
      simp only [List.mem_append, List.mem_cons, List.not_mem_nil, or_false] at hx
      have hp := h.pc i
      have hr := h.regs i
      rcases hx with (rfl | rfl | rfl | rfl | rfl) | hx
      · omega
      · exact hr 0
      · exact hr 1
      · exact hr 2
      · exact hr 3
      · exact (h.shown i).2 x hx
    · obtain ⟨j, _, rfl⟩ := List.mem_map.1 hl
      exact (h.held j).2
theorem rowsK_words : ∀ {L : List (List Int)}, (∀ l ∈ L, Nums6 l) → rowsK (L.map wordsT) = .ok L
  | [], _ => rfl
  | l :: L, h => by
    rw [List.map_cons, rowsK, (rowK_words (h l (List.mem_cons_self ..))).1]
    dsimp only
    rw [rowsK_words fun x hx => h x (List.mem_cons_of_mem _ hx)]
theorem stRows_get (s : KState) (t n q : Nat) : (stRows s t n q).length = 1 + n + q ∧ (stRows s t n q).getD 0 [] = [(t : Int)] ∧ (∀ i, i < n → (stRows s t n q).getD (1 + i) [] = partNums (s.parts i)) ∧ ∀ j, j < q → (stRows s t n q).getD (1 + n + j) [] = s.held j := by
  unfold stRows
  refine ⟨by simp; omega, rfl, fun i hi => ?_, fun j hj => ?_⟩
  · rw [Nat.add_comm 1 i, List.getD_cons_succ, List.getD_eq_getElem?_getD, List.getElem?_append_left (by simpa using hi)]
    simp [hi]
  · rw [show 1 + n + j = (n + j) + 1 by omega, List.getD_cons_succ, List.getD_eq_getElem?_getD, List.getElem?_append_right (by simp)]
    simp [hj]
theorem firstC_all {f : Nat → Nat} : ∀ {m i : Nat}, (∀ j, i ≤ j → j < i + m → f j = 0) → firstC f m i = 0
  | 0, i, _ => by rw [firstC]
  | m + 1, i, h => by
    rw [firstC, if_pos (h i (Nat.le_refl _) (by omega))]
    exact firstC_all fun j h1 h2 => h j (by omega) (by omega)
theorem stRows_shape {s : KState} {t n q u : Nat} (h : KInv s u) (ht : t ≤ 300) : shapeK (stRows s t n q) n q = 0 := by
  obtain ⟨g1, g2, g3, g4⟩ := stRows_get s t n q
  unfold shapeK
  rw [g1, g2, if_neg (by simp), if_neg (by simp; omega)]
  have hp : firstC (partC (stRows s t n q)) n 0 = 0 := firstC_all fun i _ hi => by
    unfold partC
    rw [g3 i (by omega), if_neg (by rw [partNums_len]; omega), if_neg]
    have := h.pc i
    show ¬ (12 : Int) < ((s.parts i).pc : Int)
    omega
  rw [hp, if_neg (by decide)]
  exact firstC_all fun j _ hj => by
    unfold heldC
    rw [g4 j (by omega), if_neg (by have := (h.held j).1; omega)]
theorem load_save {s : KState} {t n q u : Nat} (h : KInv s u) (ht : t ≤ 300) : loadK (saveH s t n q) n q = if 4000 < (saveH s t n q).length then .error 4 else .ok (stRows s t n q) := by
  unfold loadK
  split
  · rfl
  · have hn := stRows_nums (n := n) (q := q) h ht
    have hc : cutL 10 (saveH s t n q) = (stRows s t n q).map wordsT ++ [[]] := by
      rw [saveH_flat]
      have := cut_flat (ls := (stRows s t n q).map wordsT) (fun x hx => by
        obtain ⟨l, hl, rfl⟩ := List.mem_map.1 hx
        exact (rowK_words (hn l hl)).2) []
      rw [List.append_nil] at this
      rw [this]
      rfl
    rw [hc, List.dropLast_concat]
    have hl : ((stRows s t n q).map wordsT ++ [[]]).getLastD [] = [] := by simp
    rw [hl]
    unfold textK
    rw [rowsK_words hn]
    show (if shapeK (stRows s t n q) n q = 0 then Except.ok (stRows s t n q) else _) = _
    rw [if_pos (stRows_shape h ht)]
end Go.Proofs.YtanlmfnhlldkeaaGreatDoor
