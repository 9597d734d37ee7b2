/-
  Plain laws on the monitor of labels. No program in sight.
-/
import Derived.Test.YtodikdmmmfeddaaDoorWallLaw
import Derived.Test.YtodikdmmmfeddaaDoorLabel
namespace Go.Proofs.YtodikdmmmfeddaaDoor
set_option linter.unusedVariables false

/-- Is a label below another one? -/
def belowL (A : List Int) (i : Nat) (B : List Int) (j : Nat) : Bool := decide (gI A (i * 2) ≤ gI B (j * 2)) && within (gI A (i * 2 + 1)).toNat (gI B (j * 2 + 1)).toNat
theorem belowL_refl (A : List Int) (i : Nat) : belowL A i A i = true := by
  unfold belowL; simp [within]
theorem belowL_trans {A B C : List Int} {i j k : Nat} (h : belowL A i B j = true) (h' : belowL B j C k = true) : belowL A i C k = true := by
  unfold belowL at *
  simp only [Bool.and_eq_true, decide_eq_true_eq, within_iff] at *
  exact ⟨Int.le_trans h.1 h'.1, fun x hx => h'.2 x (h.2 x hx)⟩
def labOkB (L : List Int) (i : Nat) : Bool := decide (labOk (gI L (i * 2)) (gI L (i * 2 + 1)))
/-- What is wrong with labels. -/
def labsCode (L : List Int) (n most : Nat) : Nat := if most < n then 4 else if (List.range n).all (labOkB L) then 0 else 1
theorem labsCode_ok {L : List Int} {n most : Nat} (h : labsCode L n most = 0) : n ≤ most ∧ ∀ i, i < n → labOk (gI L (i * 2)) (gI L (i * 2 + 1)) := by
  unfold labsCode at h
  split at h
  · cases h
  · split at h
    · rename_i h1 h2
      rw [List.all_eq_true] at h2
      exact ⟨by omega, fun x hx => by have := h2 x (List.mem_range.2 hx); unfold labOkB at this; exact of_decide_eq_true this⟩
    · cases h

/-- Of each user the files it reads, and writes; of each file the files of which something may be in it. -/
structure LS where
  Re : List Nat
  Wr : List Nat
  Ho : List Nat
def lOk (S : LS) (k u f t : Int) : Prop := ((0 ≤ k ∧ k ≤ 3) ∧ (0 ≤ u ∧ u < S.Re.length) ∧ (0 ≤ f ∧ f < S.Ho.length)) ∧ (k = 3 → 0 ≤ t ∧ t < S.Ho.length)
instance (S : LS) (k u f t : Int) : Decidable (lOk S k u f t) := by unfold lOk; infer_instance
def allIn (s : Nat) (p : Nat → Bool) : Bool := (bitsOf s).all p
theorem allIn_iff {s : Nat} {p : Nat → Bool} (hs : s < 2 ^ 64) : allIn s p = true ↔ ∀ i, s.testBit i = true → p i = true := by
  unfold allIn
  rw [List.all_eq_true]
  exact ⟨fun h i hi => h i ((mem_bitsOf hs).2 hi), fun h i hi => h i ((mem_bitsOf hs).1 hi)⟩
theorem allIn_zero (p : Nat → Bool) : allIn 0 p = true := by unfold allIn; rw [bitsOf_zero]; rfl
def lAsk (U F : List Int) (S : LS) (k u f t : Int) : LS × Nat :=
  if lOk S k u f t then
    if k = 0 then
      if belowL F f.toNat U u.toNat && allIn (row S.Wr u.toNat) (fun x => belowL F f.toNat F x) then ({ S with Re := S.Re.set u.toNat (row S.Re u.toNat ||| 2 ^ f.toNat) }, 0) else (S, 7)
    else if k = 1 then
      if allIn (row S.Re u.toNat) (fun x => belowL F x F f.toNat) then ({ S with Wr := S.Wr.set u.toNat (row S.Wr u.toNat ||| 2 ^ f.toNat) }, 0) else (S, 7)
    else if k = 2 then ({ S with Re := S.Re.set u.toNat (diff (row S.Re u.toNat) (2 ^ f.toNat)), Wr := S.Wr.set u.toNat (diff (row S.Wr u.toNat) (2 ^ f.toNat)) }, 0)
    else if (row S.Re u.toNat).testBit f.toNat && (row S.Wr u.toNat).testBit t.toNat then ({ S with Ho := S.Ho.set t.toNat (row S.Ho t.toNat ||| row S.Ho f.toNat) }, 0)
    else (S, 8)
  else (S, 1)

structure LInv (U F : List Int) (S : LS) : Prop where
  lm : S.Re.length ≤ 8
  lw : S.Wr.length = S.Re.length
  ln : S.Ho.length ≤ 8
  br : Bd S.Ho.length S.Re
  bw : Bd S.Ho.length S.Wr
  bh : Bd S.Ho.length S.Ho
  rd : ∀ u f, (row S.Re u).testBit f = true → belowL F f U u = true
  sec : ∀ u f g, (row S.Re u).testBit f = true → (row S.Wr u).testBit g = true → belowL F f F g = true
  self : ∀ f, f < S.Ho.length → (row S.Ho f).testBit f = true
  own : ∀ f g, (row S.Ho f).testBit g = true → belowL F g F f = true
section
variable {U F : List Int} {S : LS}
theorem LInv.re_lt (h : LInv U F S) (u : Nat) : row S.Re u < 256 := lt256 (h.br u) h.ln
theorem LInv.wr_lt (h : LInv U F S) (u : Nat) : row S.Wr u < 256 := lt256 (h.bw u) h.ln
theorem LInv.ho_lt (h : LInv U F S) (u : Nat) : row S.Ho u < 256 := lt256 (h.bh u) h.ln
def lStart (m n : Nat) : LS := ⟨List.replicate m 0, List.replicate m 0, pows n⟩
theorem LInv.start {m n : Nat} (hm : m ≤ 8) (hn : n ≤ 8) : LInv U F (lStart m n) where
  lm := by simp [lStart, hm]
  lw := by simp [lStart]
  ln := by simp [lStart, length_pows, hn]
  br u := by unfold lStart; rw [row_zeros]; exact Nat.two_pow_pos _
  bw u := by unfold lStart; rw [row_zeros]; exact Nat.two_pow_pos _
  bh f := by
    unfold lStart
    rw [length_pows]
    rcases Nat.lt_or_ge f n with h | h
    · rw [row_pows h]; exact Nat.pow_lt_pow_right (by decide) h
    · rw [row_out _ _ (by rw [length_pows]; exact h)]; exact Nat.two_pow_pos _
  rd u f h := by unfold lStart at h; rw [row_zeros] at h; simp at h
  sec u f g h := by unfold lStart at h; rw [row_zeros] at h; simp at h
  self f hf := by unfold lStart at hf ⊢; rw [length_pows] at hf; rw [row_pows hf]; simp
  own f g h := by
    unfold lStart at h
    rcases Nat.lt_or_ge f n with h1 | h1
    · rw [row_pows h1, tb_pow] at h; obtain rfl := of_decide_eq_true h; exact belowL_refl _ _
    · rw [row_out _ _ (by rw [length_pows]; exact h1)] at h; simp at h
theorem lAsk_len (k u f t : Int) : (lAsk U F S k u f t).1.Re.length = S.Re.length ∧ (lAsk U F S k u f t).1.Ho.length = S.Ho.length := by
  unfold lAsk
  split
  · split
    · split <;> simp
    · split
      · split <;> simp
      · split
        · simp
        · split <;> simp
  · simp
theorem LInv.ask (h : LInv U F S) (k u f t : Int) : LInv U F (lAsk U F S k u f t).1 := by
  unfold lAsk
  split
  · rename_i hok
    obtain ⟨⟨⟨_, _⟩, ⟨hu0, hu1⟩, hf0, hf1⟩, ht⟩ := hok
    have hu : u.toNat < S.Re.length := by omega
    have huw : u.toNat < S.Wr.length := by rw [h.lw]; exact hu
    have hf : f.toNat < S.Ho.length := by omega
    have hr64 := lt64 (h.br u.toNat) h.ln
    have hw64 := lt64 (h.bw u.toNat) h.ln
    split
    · split
      · rename_i hc
        rw [Bool.and_eq_true, allIn_iff hw64] at hc
        refine ⟨by simp [h.lm], by simp [h.lw], h.ln, h.br.set _ _ (Nat.or_lt_two_pow (h.br _) (Nat.pow_lt_pow_right (by decide) hf)), h.bw, h.bh, fun x a ha => ?_, fun x a b ha hb => ?_, h.self, h.own⟩
        · rw [row_set _ _ _ _ hu] at ha
          split at ha
          · rename_i e; subst e
            rw [tb_or, tb_pow, Bool.or_eq_true, decide_eq_true_eq] at ha
            rcases ha with ha | rfl
            · exact h.rd _ a ha
            · exact hc.1
          · exact h.rd x a ha
        · rw [row_set _ _ _ _ hu] at ha
          split at ha
          · rename_i e; subst e
            rw [tb_or, tb_pow, Bool.or_eq_true, decide_eq_true_eq] at ha
            rcases ha with ha | rfl
            · exact h.sec _ a b ha hb
            · exact hc.2 b hb
          · exact h.sec x a b ha hb
      · exact h
    · split
      · split
        · rename_i hc
          rw [allIn_iff hr64] at hc
          refine ⟨h.lm, by simp [h.lw], h.ln, h.br, h.bw.set _ _ (Nat.or_lt_two_pow (h.bw _) (Nat.pow_lt_pow_right (by decide) hf)), h.bh, h.rd, fun x a b ha hb => ?_, h.self, h.own⟩
          rw [row_set _ _ _ _ huw] at hb
          split at hb
          · rename_i e; subst e
            rw [tb_or, tb_pow, Bool.or_eq_true, decide_eq_true_eq] at hb
            rcases hb with hb | rfl
            · exact h.sec _ a b ha hb
            · exact hc a ha
          · exact h.sec x a b ha hb
        · exact h
      · split
        · have hd : ∀ {L : List Nat} {x a : Nat}, u.toNat < L.length → (row (L.set u.toNat (diff (row L u.toNat) (2 ^ f.toNat))) x).testBit a = true → (row L x).testBit a = true := fun {L x a} hl ha => by
            rw [row_set _ _ _ _ hl] at ha
            split at ha
            · rename_i e; subst e
              rw [diff_bit, Bool.and_eq_true] at ha
              exact ha.1
            · exact ha
          refine ⟨by simp [h.lm], by simp [h.lw], h.ln, h.br.set _ _ (diff_lt (h.br _)), h.bw.set _ _ (diff_lt (h.bw _)), h.bh, fun x a ha => h.rd x a (hd hu ha), fun x a b ha hb => h.sec x a b (hd hu ha) (hd huw hb), h.self, h.own⟩
        · rename_i hk0 hk1 hk2
          obtain ⟨ht0, ht1⟩ := ht (by omega)
          have htl : t.toNat < S.Ho.length := by omega
          split
          · rename_i hc
            rw [Bool.and_eq_true] at hc
            have hln : (S.Ho.set t.toNat (row S.Ho t.toNat ||| row S.Ho f.toNat)).length = S.Ho.length := by simp
            refine ⟨h.lm, h.lw, by simpa using h.ln, by show Bd (S.Ho.set _ _).length _; rw [hln]; exact h.br, by show Bd (S.Ho.set _ _).length _; rw [hln]; exact h.bw, by show Bd (S.Ho.set _ _).length _; rw [hln]; exact h.bh.set _ _ (Nat.or_lt_two_pow (h.bh _) (h.bh _)), h.rd, h.sec, fun x hx => ?_, fun x g hb => ?_⟩
            · rw [row_set _ _ _ _ htl]
              simp only [List.length_set] at hx
              split
              · rename_i e; subst e; rw [tb_or, h.self _ hx]; rfl
              · exact h.self x hx
            · rw [row_set _ _ _ _ htl] at hb
              split at hb
              · rename_i e; subst e
                rw [tb_or, Bool.or_eq_true] at hb
                rcases hb with hb | hb
                · exact h.own _ g hb
                · exact belowL_trans (h.own _ g hb) (h.sec _ _ _ hc.1 hc.2)
              · exact h.own x g hb
          · exact h
  · exact h
theorem diff_pow_or (s f : Nat) : diff (s ||| 2 ^ f) (2 ^ f) = diff s (2 ^ f) := Nat.eq_of_testBit_eq fun j => by
  rw [diff_bit, diff_bit, tb_or, tb_pow]
  cases s.testBit j <;> by_cases e : f = j <;> simp [e]
theorem diff_self_pow (f : Nat) : diff 0 (2 ^ f) = 0 := Nat.eq_of_testBit_eq fun j => by rw [diff_bit]; simp
theorem zero_of_bits {s n : Nat} (hs : s < 2 ^ n) (h : ∀ i, i < n → s.testBit i = false) : s = 0 := Nat.eq_of_testBit_eq fun j => by
  rw [Nat.zero_testBit]
  rcases Nat.lt_or_ge j n with h1 | h1
  · exact h j h1
  · exact Nat.testBit_lt_two_pow (Nat.lt_of_lt_of_le hs (Nat.pow_le_pow_right (by decide) h1))
/-- Letting go of one file. -/
theorem lAsk_drop (h : LInv U F S) {u g : Nat} (t : Int) (hu : u < S.Re.length) (hg : g < S.Ho.length) :
    lAsk U F S 2 (u : Int) (g : Int) t = ({ S with Re := S.Re.set u (diff (row S.Re u) (2 ^ g)), Wr := S.Wr.set u (diff (row S.Wr u) (2 ^ g)) }, 0) := by
  unfold lAsk
  rw [if_pos ⟨⟨by omega, by omega, by omega⟩, fun e => by omega⟩]
  rfl
theorem lAsk_dropped (h : LInv U F S) {u g : Nat} (t : Int) (hu : u < S.Re.length) (hg : g < S.Ho.length) :
    (lAsk U F S 2 (u : Int) (g : Int) t).2 = 0 ∧ row (lAsk U F S 2 (u : Int) (g : Int) t).1.Re u = diff (row S.Re u) (2 ^ g) ∧ row (lAsk U F S 2 (u : Int) (g : Int) t).1.Wr u = diff (row S.Wr u) (2 ^ g) := by
  rw [lAsk_drop h t hu hg]
  exact ⟨rfl, by show row (S.Re.set _ _) u = _; rw [row_set _ _ _ _ hu, if_pos rfl], by show row (S.Wr.set _ _) u = _; rw [row_set _ _ _ _ (by rw [h.lw]; exact hu), if_pos rfl]⟩
/-- Who reads and writes nothing reads any file below. -/
theorem lAsk_fresh (h : LInv U F S) {u f : Nat} (t : Int) (hu : u < S.Re.length) (hf : f < S.Ho.length) (hr : row S.Re u = 0) (hw : row S.Wr u = 0) :
    lAsk U F S 0 (u : Int) (f : Int) t = if belowL F f U u then ({ S with Re := S.Re.set u (2 ^ f) }, 0) else (S, 7) := by
  unfold lAsk
  rw [if_pos ⟨⟨by omega, by omega, by omega⟩, fun e => by omega⟩, if_pos rfl]
  simp only [Int.toNat_natCast, hr, hw, allIn_zero, Bool.and_true, Nat.zero_or]
/-- And, letting go of it, writes it. -/
theorem lAsk_then (h : LInv U F S) {u f : Nat} (t : Int) (hu : u < S.Re.length) (hf : f < S.Ho.length) (hr : row S.Re u = 0) (hw : row S.Wr u = 0) :
    (lAsk U F (lAsk U F (lAsk U F S 0 (u : Int) (f : Int) t).1 2 (u : Int) (f : Int) t).1 1 (u : Int) (f : Int) t).2 = 0 := by
  have h1 := h.ask 0 (u : Int) (f : Int) t
  have l1 := lAsk_len (U := U) (F := F) (S := S) 0 (u : Int) (f : Int) t
  have hx : diff (row (lAsk U F S 0 (u : Int) (f : Int) t).1.Re u) (2 ^ f) = 0 := by
    rw [lAsk_fresh h t hu hf hr hw]
    split
    · show diff (row (S.Re.set u (2 ^ f)) u) (2 ^ f) = 0
      rw [row_set _ _ _ _ hu, if_pos rfl]
      refine Nat.eq_of_testBit_eq fun j => ?_
      rw [diff_bit]; simp
    · rw [hr]; exact diff_self_pow f
  generalize (lAsk U F S 0 (u : Int) (f : Int) t).1 = S1 at *
  have hu1 : u < S1.Re.length := by omega
  have hf1 : f < S1.Ho.length := by omega
  have h2 := (lAsk_dropped h1 t hu1 hf1).2.1
  have l2 := lAsk_len (U := U) (F := F) (S := S1) 2 (u : Int) (f : Int) t
  rw [hx] at h2
  generalize (lAsk U F S1 2 (u : Int) (f : Int) t).1 = S2 at *
  unfold lAsk
  rw [if_pos ⟨⟨by omega, by omega, by omega⟩, fun e => by omega⟩, if_neg (by decide), if_pos rfl]
  simp only [Int.toNat_natCast, h2, allIn_zero, if_true]
end
end Go.Proofs.YtodikdmmmfeddaaDoor
