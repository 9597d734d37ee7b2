/-
  Plain laws on the wall. No program in sight.
-/
import Derived.Test.YtodikdmmmfeddaaDoorBibaLaw
import Derived.Test.YtodikdmmmfeddaaDoorClose
import Derived.Test.YtodikdmmmfeddaaDoorBitsPlain
import Derived.Test.YtodikdmmmfeddaaDoorDiff
namespace Go.Proofs.YtodikdmmmfeddaaDoor
set_option linter.unusedVariables false

/-- Of each user the firms it saw; of each firm the firms of which something may be in its files. -/
structure WS where
  Saw : List Nat
  Ho : List Nat
def wOk (T : List Int) (S : WS) (k u f : Int) : Prop := (0 ≤ k ∧ k ≤ 1) ∧ (0 ≤ u ∧ u < S.Saw.length) ∧ (0 ≤ f ∧ f < T.length)
instance (T : List Int) (S : WS) (k u f : Int) : Decidable (wOk T S k u f) := by unfold wOk; infer_instance
/-- Does one know a firm that is not open, but for f, of which something is true? -/
def others (T : List Int) (s f : Nat) (what : Nat → Bool) : Bool := (bitsOf (diff s (2 ^ f))).any fun i => decide (gI T i ≠ 0) && what i
def sameT (T : List Int) (f : Nat) (i : Nat) : Bool := decide (gI T i = gI T f)
/-- What comes to a firm's files of all that lies in some firms' files. -/
def joinTo (Ho : List Nat) (f : Nat) (l : List Nat) : Nat := l.foldl (fun a i => a ||| row Ho i) (row Ho f)
def wAsk (T : List Int) (S : WS) (k u f : Int) : WS × Nat :=
  if wOk T S k u f then
    if others T (row S.Saw u.toNat) f.toNat (sameT T f.toNat) then (S, 7)
    else if k = 0 then ({ S with Saw := S.Saw.set u.toNat (row S.Saw u.toNat ||| 2 ^ f.toNat) }, 0)
    else if others T (row S.Saw u.toNat) f.toNat (fun _ => true) then (S, 7)
    else ({ S with Ho := S.Ho.set f.toNat (joinTo S.Ho f.toNat (bitsOf (row S.Saw u.toNat))) }, 0)
  else (S, 1)

theorem others_iff {T : List Int} {s f : Nat} {what : Nat → Bool} (hs : s < 2 ^ 64) : others T s f what = true ↔ ∃ i, s.testBit i = true ∧ i ≠ f ∧ gI T i ≠ 0 ∧ what i = true := by
  unfold others
  rw [List.any_eq_true]
  have hd : diff s (2 ^ f) < 2 ^ 64 := Nat.lt_of_le_of_lt (diff_le _ _) hs
  constructor
  · rintro ⟨i, hi, h⟩
    rw [mem_bitsOf hd, diff_bit, tb_pow] at hi
    simp only [Bool.and_eq_true, decide_eq_true_eq, Bool.not_eq_true', decide_eq_false_iff_not] at hi h
    exact ⟨i, hi.1, fun e => hi.2 e.symm, h.1, h.2⟩
  · rintro ⟨i, h1, h2, h3, h4⟩
    refine ⟨i, ?_, by simp [h3, h4]⟩
    rw [mem_bitsOf hd, diff_bit, tb_pow, h1]
    simp; exact fun e => h2 e.symm
theorem joinTo_snoc (Ho : List Nat) (f : Nat) (l : List Nat) (i : Nat) : joinTo Ho f (l ++ [i]) = joinTo Ho f l ||| row Ho i := by unfold joinTo; rw [List.foldl_append]; rfl
theorem joinTo_bit' (Ho : List Nat) (j : Nat) : ∀ (l : List Nat) (a : Nat), (l.foldl (fun a i => a ||| row Ho i) a).testBit j = true ↔ a.testBit j = true ∨ ∃ i ∈ l, (row Ho i).testBit j = true
  | [], a => by simp
  | x :: l, a => by
    rw [List.foldl_cons, joinTo_bit' Ho j l, tb_or]
    simp only [Bool.or_eq_true, List.mem_cons, exists_eq_or_imp]
    exact ⟨fun h => by rcases h with (h | h) | h <;> simp [h], fun h => by rcases h with h | h | h <;> simp [h]⟩
theorem joinTo_bit (Ho : List Nat) (f j : Nat) (l : List Nat) : (joinTo Ho f l).testBit j = true ↔ (row Ho f).testBit j = true ∨ ∃ i ∈ l, (row Ho i).testBit j = true := joinTo_bit' Ho j l _
theorem joinTo_self (Ho : List Nat) (f : Nat) (l : List Nat) : joinTo Ho f (l ++ [f]) = joinTo Ho f l := by
  refine Nat.eq_of_testBit_eq fun j => ?_
  rw [Bool.eq_iff_iff, joinTo_bit, joinTo_bit]
  simp only [List.mem_append, List.mem_singleton]
  constructor
  · rintro (h | ⟨i, h | rfl, h2⟩)
    · exact .inl h
    · exact .inr ⟨i, h, h2⟩
    · exact .inl h2
  · rintro (h | ⟨i, h, h2⟩)
    · exact .inl h
    · exact .inr ⟨i, .inl h, h2⟩
theorem joinTo_lt {Ho : List Nat} {n : Nat} (hb : Bd n Ho) (f : Nat) (l : List Nat) : joinTo Ho f l < 2 ^ n := by
  refine Nat.lt_pow_two_of_testBit _ fun j hj => ?_
  refine Bool.eq_false_iff.2 fun h => ?_
  have no := fun i => Nat.testBit_lt_two_pow (Nat.lt_of_lt_of_le (hb i) (Nat.pow_le_pow_right (by decide) hj))
  rcases (joinTo_bit Ho f j l).1 h with h | ⟨i, _, h⟩
  · rw [no f] at h; cases h
  · rw [no i] at h; cases h
/-- As the reference joins: the firms in order. -/
theorem joinTo_range (Ho : List Nat) (f s n : Nat) (hs : s < 2 ^ n) (hn : n ≤ 64) : joinTo Ho f ((List.range n).filter fun i => s.testBit i) = joinTo Ho f (bitsOf s) := by
  have hs64 : s < 2 ^ 64 := Nat.lt_of_lt_of_le hs (Nat.pow_le_pow_right (by decide) hn)
  refine Nat.eq_of_testBit_eq fun j => ?_
  rw [Bool.eq_iff_iff, joinTo_bit, joinTo_bit]
  constructor
  · rintro (h | ⟨i, hi, h2⟩)
    · exact .inl h
    · exact .inr ⟨i, (mem_bitsOf hs64).2 (List.mem_filter.1 hi).2, h2⟩
  · rintro (h | ⟨i, hi, h2⟩)
    · exact .inl h
    · have hb := (mem_bitsOf hs64).1 hi
      refine .inr ⟨i, List.mem_filter.2 ⟨List.mem_range.2 ?_, hb⟩, h2⟩
      rcases Nat.lt_or_ge i n with h1 | h1
      · exact h1
      · rw [Nat.testBit_lt_two_pow (Nat.lt_of_lt_of_le hs (Nat.pow_le_pow_right (by decide) h1))] at hb; cases hb

structure WInv (T : List Int) (S : WS) : Prop where
  ln : T.length ≤ 8
  lm : S.Saw.length ≤ 8
  lh : S.Ho.length = T.length
  bs : Bd T.length S.Saw
  bh : Bd T.length S.Ho
  riv : ∀ u f g, (row S.Saw u).testBit f = true → (row S.Saw u).testBit g = true → f ≠ g → gI T f ≠ 0 → gI T f ≠ gI T g
  self : ∀ f, f < T.length → (row S.Ho f).testBit f = true
  own : ∀ f g, g ≠ f → (row S.Ho f).testBit g = true → gI T g = 0
theorem WInv.saw_lt {T : List Int} {S : WS} (h : WInv T S) (u : Nat) : row S.Saw u < 256 := Nat.lt_of_lt_of_le (h.bs u) (by have := Nat.pow_le_pow_right (n := 2) (by decide) h.ln; simpa using this)
theorem WInv.ho_lt {T : List Int} {S : WS} (h : WInv T S) (u : Nat) : row S.Ho u < 256 := Nat.lt_of_lt_of_le (h.bh u) (by have := Nat.pow_le_pow_right (n := 2) (by decide) h.ln; simpa using this)
def pows (n : Nat) : List Nat := (List.range n).map fun i => 2 ^ i
theorem length_pows (n : Nat) : (pows n).length = n := by unfold pows; simp
theorem row_pows {n i : Nat} (h : i < n) : row (pows n) i = 2 ^ i := by unfold row pows; rw [List.getElem?_map, List.getElem?_range h]; rfl
theorem pows_succ (n : Nat) : pows (n + 1) = pows n ++ [2 ^ n] := by unfold pows; rw [List.range_succ, List.map_append]; rfl
theorem row_zeros (n i : Nat) : row (List.replicate n 0) i = 0 := by
  unfold row; rw [List.getElem?_replicate]; split <;> rfl
def wStart (m : Nat) (T : List Int) : WS := ⟨List.replicate m 0, pows T.length⟩
theorem WInv.start {m : Nat} {T : List Int} (hm : m ≤ 8) (hT : T.length ≤ 8) : WInv T (wStart m T) where
  ln := hT
  lm := by simp [wStart, hm]
  lh := length_pows _
  bs u := by unfold wStart; rw [row_zeros]; exact Nat.two_pow_pos _
  bh f := by
    unfold wStart
    rcases Nat.lt_or_ge f T.length with h | h
    · rw [row_pows h]; exact Nat.pow_lt_pow_right (by decide) h
    · rw [row_out _ _ (by rw [length_pows]; exact h)]; exact Nat.two_pow_pos _
  riv u f g h := by unfold wStart at h; rw [row_zeros] at h; simp at h
  self f hf := by unfold wStart; rw [row_pows hf]; simp
  own f g hne h := by
    unfold wStart at h
    rcases Nat.lt_or_ge f T.length with h1 | h1
    · rw [row_pows h1, tb_pow] at h; exact absurd (of_decide_eq_true h).symm hne
    · rw [row_out _ _ (by rw [length_pows]; exact h1)] at h; simp at h
theorem lt64 {s n : Nat} (hs : s < 2 ^ n) (hn : n ≤ 8) : s < 2 ^ 64 := Nat.lt_of_lt_of_le hs (Nat.pow_le_pow_right (by decide) (by omega))
theorem lt256 {s n : Nat} (hs : s < 2 ^ n) (hn : n ≤ 8) : s < 256 := Nat.lt_of_lt_of_le hs (by have := Nat.pow_le_pow_right (n := 2) (by decide) hn; simpa using this)
theorem WInv.ask {T : List Int} {S : WS} (h : WInv T S) (k u f : Int) : WInv T (wAsk T S k u f).1 := by
  unfold wAsk
  split
  · rename_i hok
    obtain ⟨⟨_, _⟩, ⟨hu0, hu1⟩, hf0, hf1⟩ := hok
    have hu : u.toNat < S.Saw.length := by omega
    have hf : f.toNat < T.length := by omega
    have hs64 := lt64 (h.bs u.toNat) h.ln
    split
    · exact h
    · rename_i hno
      split
      · have hno' : ∀ i, (row S.Saw u.toNat).testBit i = true → i ≠ f.toNat → gI T i ≠ 0 → gI T i ≠ gI T f.toNat := fun i h1 h2 h3 h4 => by
          refine hno ((others_iff hs64).2 ⟨i, h1, h2, h3, ?_⟩)
          unfold sameT; exact decide_eq_true h4
        refine ⟨h.ln, by simp [h.lm], h.lh, h.bs.set _ _ (Nat.or_lt_two_pow (h.bs _) (Nat.pow_lt_pow_right (by decide) hf)), h.bh, fun x a b ha hb' hab h0 => ?_, h.self, h.own⟩
        rw [row_set _ _ _ _ hu] at ha hb'
        split at ha
        · rename_i e; subst e
          rw [if_pos rfl] at hb'
          rw [tb_or, tb_pow, Bool.or_eq_true, decide_eq_true_eq] at ha hb'
          rcases ha with ha | rfl
          · rcases hb' with hb' | rfl
            · exact h.riv _ a b ha hb' hab h0
            · exact hno' a ha hab h0
          · rcases hb' with hb' | rfl
            · intro e2
              exact hno' b hb' (fun e => hab e.symm) (by rw [← e2]; exact h0) e2.symm
            · exact absurd rfl hab
        · rename_i e
          rw [if_neg e] at hb'
          exact h.riv x a b ha hb' hab h0
      · split
        · exact h
        · rename_i hno2
          have hno' : ∀ i, (row S.Saw u.toNat).testBit i = true → i ≠ f.toNat → gI T i = 0 := fun i h1 h2 => Classical.byContradiction fun h3 => hno2 ((others_iff hs64).2 ⟨i, h1, h2, h3, rfl⟩)
          refine ⟨h.ln, h.lm, by simp [h.lh], h.bs, h.bh.set _ _ (joinTo_lt h.bh _ _), h.riv, fun x hx => ?_, fun x g hne hb' => ?_⟩
          · rw [row_set _ _ _ _ (by rw [h.lh]; exact hf)]
            split
            · rename_i e; subst e; exact (joinTo_bit _ _ _ _).2 (.inl (h.self _ hx))
            · exact h.self x hx
          · rw [row_set _ _ _ _ (by rw [h.lh]; exact hf)] at hb'
            split at hb'
            · rename_i e; subst e
              rcases (joinTo_bit _ _ _ _).1 hb' with hb' | ⟨i, hi, hb'⟩
              · exact h.own _ g hne hb'
              · have hsi := (mem_bitsOf hs64).1 hi
                by_cases e : g = i
                · subst e; exact hno' g hsi hne
                · exact h.own i g e hb'
            · exact h.own x g hne hb'
  · exact h
theorem wAsk_lens {T : List Int} {S : WS} (k u f : Int) : (wAsk T S k u f).1.Saw.length = S.Saw.length := by
  unfold wAsk
  split
  · split
    · rfl
    · split
      · simp
      · split <;> rfl
  · rfl
theorem set_row_self {l : List Nat} {i : Nat} (h : i < l.length) : l.set i (row l i) = l := by
  refine List.ext_getElem? fun j => ?_
  rw [List.getElem?_set]
  by_cases e : i = j
  · subst e; rw [if_pos rfl, if_pos h]; unfold row; rw [List.getElem?_eq_getElem h]; rfl
  · rw [if_neg e]
theorem or_pow_self {s i : Nat} (h : s.testBit i = true) : s ||| 2 ^ i = s := Nat.eq_of_testBit_eq fun j => by
  rw [tb_or, tb_pow]
  by_cases e : i = j
  · subst e; simp [h]
  · simp [e]
/-- What one saw once one may see again. -/
theorem wAsk_again {T : List Int} {S : WS} (h : WInv T S) {u f : Nat} (hu : u < S.Saw.length) (hf : f < T.length) (hb : (row S.Saw u).testBit f = true) : wAsk T S 0 (u : Int) (f : Int) = (S, 0) := by
  unfold wAsk
  rw [if_pos ⟨by omega, by omega, by omega⟩]
  simp only [Int.toNat_natCast]
  rw [if_neg, or_pow_self hb, set_row_self hu]
  · rfl
  intro ho
  obtain ⟨i, h1, h2, h3, h4⟩ := (others_iff (lt64 (h.bs u) h.ln)).1 ho
  unfold sameT at h4
  exact h.riv u i f h1 hb h2 h3 (of_decide_eq_true h4)

/-- How many of the first n. -/
def cntP (p : Nat → Bool) : Nat → Nat
  | 0 => 0
  | n + 1 => cntP p n + if p n then 1 else 0
theorem cntP_zero {p : Nat → Bool} : ∀ n, (∀ i, i < n → p i = false) → cntP p n = 0
  | 0, _ => rfl
  | n + 1, h => by rw [cntP, cntP_zero n fun i hi => h i (by omega), h n (by omega)]; rfl
theorem cntP_le {p : Nat → Bool} : ∀ n, cntP p n ≤ n
  | 0 => Nat.le_refl _
  | n + 1 => by rw [cntP]; have := cntP_le (p := p) n; split <;> omega
theorem cntP_or {p q r : Nat → Bool} (h : ∀ i, r i = true → p i = true ∨ q i = true) : ∀ n, cntP r n ≤ cntP p n + cntP q n
  | 0 => Nat.le_refl _
  | n + 1 => by
    rw [cntP, cntP, cntP]
    have := cntP_or h n
    cases hr : r n with
    | false => simp; omega
    | true => rcases h n hr with h1 | h1 <;> rw [h1] <;> simp <;> split <;> omega
theorem cntP_one {p : Nat → Bool} (h : ∀ i j, p i = true → p j = true → i = j) : ∀ n, cntP p n ≤ 1
  | 0 => by simp [cntP]
  | n + 1 => by
    rw [cntP]
    cases hp : p n with
    | false => have := cntP_one h n; simp; exact this
    | true =>
      rw [cntP_zero n fun i hi => Bool.eq_false_iff.2 fun e => by have := h i n e hp; omega]
      simp
/-- Did one of the first m users see f? -/
def sees (S : WS) (m f : Nat) : Bool := (List.range m).any fun u => (row S.Saw u).testBit f
theorem sees_succ (S : WS) (m f : Nat) : sees S (m + 1) f = (sees S m f || (row S.Saw m).testBit f) := by unfold sees; rw [List.range_succ, List.any_append]; simp
theorem many_le {T : List Int} {S : WS} (h : WInv T S) {t : Int} (ht : t ≠ 0) (n : Nat) : ∀ m, cntP (fun f => sees S m f && decide (gI T f = t)) n ≤ m
  | 0 => by rw [cntP_zero n fun i _ => by simp [sees]]; exact Nat.le_refl _
  | m + 1 => by
    have h1 := many_le h ht n m
    have h2 := cntP_or (r := fun f => sees S (m + 1) f && decide (gI T f = t)) (p := fun f => sees S m f && decide (gI T f = t)) (q := fun f => (row S.Saw m).testBit f && decide (gI T f = t)) (fun i hi => by
      simp only [sees_succ, Bool.and_eq_true, Bool.or_eq_true] at hi ⊢
      rcases hi.1 with h3 | h3
      · exact .inl ⟨h3, hi.2⟩
      · exact .inr ⟨h3, hi.2⟩) n
    have h3 := cntP_one (p := fun f => (row S.Saw m).testBit f && decide (gI T f = t)) (fun i j hi hj => Classical.byContradiction fun hne => by
      simp only [Bool.and_eq_true, decide_eq_true_eq] at hi hj
      exact h.riv m i j hi.1 hj.1 hne (by rw [hi.2]; exact ht) (by rw [hi.2, hj.2])) n
    omega
end Go.Proofs.YtodikdmmmfeddaaDoor
