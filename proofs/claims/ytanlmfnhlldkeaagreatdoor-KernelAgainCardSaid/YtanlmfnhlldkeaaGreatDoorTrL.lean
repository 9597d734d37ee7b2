/-
  A trail that was torn, or of which a byte was turned: plain laws.
-/
import Derived.Test.YtanlmfnhlldkeaaGreatDoorBaseA
namespace Go.Proofs.YtanlmfnhlldkeaaGreatDoor
set_option linter.unusedVariables false

/-- Lines put together, each with its end. -/
def flatE (ls : List (List UInt8)) : List UInt8 := ls.flatMap (· ++ [10])
theorem flatE_nil : flatE [] = [] := rfl
theorem flatE_cons (x : List UInt8) (ls : List (List UInt8)) : flatE (x :: ls) = x ++ 10 :: flatE ls := by unfold flatE; rw [List.flatMap_cons, List.append_assoc]; rfl
theorem flatE_append (a b : List (List UInt8)) : flatE (a ++ b) = flatE a ++ flatE b := by unfold flatE; rw [List.flatMap_append]
theorem flatE_count : ∀ {ls : List (List UInt8)}, (∀ x ∈ ls, 10 ∉ x) → (flatE ls).count 10 = ls.length
  | [], _ => rfl
  | x :: ls, h => by
    rw [flatE_cons, List.count_append, List.count_cons_self, flatE_count (fun y hy => h y (List.mem_cons_of_mem _ hy)), List.count_eq_zero.2 (h x (List.mem_cons_self ..)), List.length_cons]; omega
theorem dropLast_cons {α : Type} {x : α} {l : List α} (h : l ≠ []) : (x :: l).dropLast = x :: l.dropLast := by
  cases l with
  | nil => exact absurd rfl h
  | cons y r => rfl
theorem cut_flat : ∀ {ls : List (List UInt8)}, (∀ x ∈ ls, 10 ∉ x) → ∀ z : List UInt8, cutL 10 (flatE ls ++ z) = ls ++ cutL 10 z
  | [], _, z => rfl
  | x :: ls, h, z => by
    rw [flatE_cons, List.append_assoc, List.cons_append, cutL_at (h x (List.mem_cons_self ..)), cut_flat (fun y hy => h y (List.mem_cons_of_mem _ hy)), List.cons_append]
/-- Of a beginning just the whole lines. -/
theorem cut_take : ∀ {ls : List (List UInt8)}, (∀ x ∈ ls, 10 ∉ x) → ∀ k : Nat, (cutL 10 ((flatE ls).take k)).dropLast = ls.take (((flatE ls).take k).count 10)
  | [], _, k => by rw [flatE_nil, List.take_nil]; rfl
  | x :: ls, h, k => by
    have hx := h x (List.mem_cons_self ..)
    rw [flatE_cons]
    rcases Nat.lt_or_ge x.length k with hk | hk
    · obtain ⟨m, rfl⟩ : ∃ m, k = x.length + (m + 1) := ⟨k - x.length - 1, by omega⟩
      rw [List.take_length_add_append, List.take_succ_cons, cutL_at hx, dropLast_cons (cutL_ne _ _), cut_take (fun y hy => h y (List.mem_cons_of_mem _ hy)), List.count_append, List.count_cons_self, List.count_eq_zero.2 hx, Nat.zero_add, List.take_succ_cons]
    · have e : (x ++ 10 :: flatE ls).take k = x.take k := by rw [List.take_append_of_le_length hk]
      have hf : 10 ∉ x.take k := fun hm => hx (List.mem_of_mem_take hm)
      rw [e, cutL_none hf, List.count_eq_zero.2 hf]; rfl

section
variable {U F K : List Int} {T : TS}
def askAt (U F K : List Int) (T : TS) (k : Nat) : TS × Nat := tAsk U F T (gI K (k * 4)) (gI K (k * 4 + 1)) (gI K (k * 4 + 2)) (gI K (k * 4 + 3))
/-- The trail behind the first asks. -/
def tRun (U F K : List Int) (T : TS) : Nat → TS
  | 0 => T
  | k + 1 => (askAt U F K (tRun U F K T k) k).1
theorem tRun_succ (k : Nat) : tRun U F K T (k + 1) = (askAt U F K (tRun U F K T k) k).1 := rfl
theorem TInv.run (h : TInv U F T) : ∀ n, TInv U F (tRun U F K T n)
  | 0 => h
  | n + 1 => (h.run n).ask _ _ _ _
theorem askAt_cases (h : TInv U F T) (k : Nat) :
    (T.many = 100 ∧ askAt U F K T k = (T, 4)) ∨ (T.many ≠ 100 ∧ askAt U F K T k = (T, 1)) ∨
    ((askAt U F K T k).2 ≠ 1 ∧ (askAt U F K T k).2 < 10 ∧ T.many ≠ 100 ∧ (askAt U F K T k).1.many = T.many + 1 ∧ ∃ kn un fn tn : Nat, kn < 10 ∧ un < 10 ∧ fn < 10 ∧ tn < 10 ∧ (askAt U F K T k).1.log = T.log ++ (lineOf T kn un fn tn (askAt U F K T k).2 ++ [10]) ∧ tLine U F T (lineOf T kn un fn tn (askAt U F K T k).2) = ((askAt U F K T k).1, 0)) := by
  unfold askAt
  generalize gI K (k * 4) = a
  generalize gI K (k * 4 + 1) = u
  generalize gI K (k * 4 + 2) = f
  generalize gI K (k * 4 + 3) = t
  by_cases h1 : T.many = 100
  · left; exact ⟨h1, by unfold tAsk; rw [if_pos h1]⟩
  · by_cases h2 : (lAsk U F T.S a u f t).2 = 1
    · right; left; exact ⟨h1, by unfold tAsk; rw [if_neg h1, if_pos h2]⟩
    · right; right
      have hb := tLine_back h (k := a) (u := u) (f := f) (t := t) h1 h2
      have hr := TRan.of h2
      have l8 := h.inv.lm
      have n8 := h.inv.ln
      have hc := lAsk_code U F T.S a u f t
      have hcode : (tAsk U F T a u f t).2 = (lAsk U F T.S a u f t).2 := by unfold tAsk; rw [if_neg h1, if_neg h2]
      obtain ⟨⟨_, _⟩, ⟨_, _⟩, ⟨_, _⟩, ⟨_, _⟩⟩ := hr
      refine ⟨by rw [hcode]; exact h2, by rw [hcode]; omega, h1, by unfold tAsk; rw [if_neg h1, if_neg h2]; rfl, a.toNat, u.toNat, f.toNat, (toOf a t).toNat, by omega, by omega, by omega, by omega, ?_, by rw [hcode]; exact hb⟩
      rw [hcode]
      unfold tAsk
      rw [if_neg h1, if_neg h2]
      show T.log ++ _ = _
      unfold lineOf
      rw [List.append_assoc]
/-- What was written, line by line. -/
theorem tRun_lines (h : TInv U F T) (h0 : T.log = []) (hm0 : T.many = 0) : ∀ n, ∃ ls : List (List UInt8), (∀ x ∈ ls, 10 ∉ x) ∧ (tRun U F K T n).log = flatE ls ∧ ls.length = (tRun U F K T n).many ∧
    (∀ r, tLines U F T (ls ++ r) = tLines U F (tRun U F K T n) r) ∧
    (∀ m, m < ls.length → ∃ j, j < n ∧ (tRun U F K T j).many = m ∧ ∃ kn un fn tn e : Nat, kn < 10 ∧ un < 10 ∧ fn < 10 ∧ tn < 10 ∧ e < 10 ∧ ls.getD m [] = lineOf (tRun U F K T j) kn un fn tn e ∧ ∀ r, tLines U F T (ls.take m ++ r) = tLines U F (tRun U F K T j) r)
  | 0 => ⟨[], fun x hx => absurd hx List.not_mem_nil, h0, hm0.symm, fun r => rfl, fun m hm => absurd hm (Nat.not_lt_zero _)⟩
  | n + 1 => by
    obtain ⟨ls, h1, h2, h3, h4, h5⟩ := tRun_lines h h0 hm0 n
    have hc := askAt_cases (K := K) (h.run (K := K) n) n
    have hold : ∀ m, m < ls.length → ∃ j, j < n + 1 ∧ (tRun U F K T j).many = m ∧ ∃ kn un fn tn e : Nat, kn < 10 ∧ un < 10 ∧ fn < 10 ∧ tn < 10 ∧ e < 10 ∧ ls.getD m [] = lineOf (tRun U F K T j) kn un fn tn e ∧ ∀ r, tLines U F T (ls.take m ++ r) = tLines U F (tRun U F K T j) r := fun m hm => by
      obtain ⟨j, hj, r⟩ := h5 m hm
      exact ⟨j, by omega, r⟩
    rcases hc with ⟨_, hc⟩ | ⟨_, hc⟩ | ⟨hc1, hc2, hc3, hc4, kn, un, fn, tn, b1, b2, b3, b4, hlog, hline⟩
    · rw [tRun_succ, hc]; exact ⟨ls, h1, h2, h3, h4, hold⟩
    · rw [tRun_succ, hc]; exact ⟨ls, h1, h2, h3, h4, hold⟩
    · refine ⟨ls ++ [lineOf (tRun U F K T n) kn un fn tn (askAt U F K (tRun U F K T n) n).2], ?_, ?_, ?_, ?_, ?_⟩
      · intro x hx
        rcases List.mem_append.1 hx with hx | hx
        · exact h1 x hx
        · rw [List.mem_singleton.1 hx]; exact lineOf_free _ _ _ _ _ _
      · rw [tRun_succ, hlog, h2, flatE_append, flatE_cons, flatE_nil]
      · rw [tRun_succ, hc4, List.length_append, h3]; rfl
      · intro r
        rw [List.append_assoc, h4, tRun_succ, List.cons_append, List.nil_append, tLines, hline]
        rfl
      · intro m hm
        rw [List.length_append, List.length_singleton] at hm
        rcases Nat.lt_or_ge m ls.length with hlt | hge
        · obtain ⟨j, hj, hj1, kn', un', fn', tn', e', c1, c2, c3, c4, c5, c6, c7⟩ := hold m hlt
          refine ⟨j, hj, hj1, kn', un', fn', tn', e', c1, c2, c3, c4, c5, ?_, fun r => ?_⟩
          · rw [← c6, List.getD_eq_getElem?_getD, List.getD_eq_getElem?_getD, List.getElem?_append_left hlt]
          · rw [List.take_append_of_le_length (by omega)]; exact c7 r
        · obtain rfl : m = ls.length := by omega
          refine ⟨n, by omega, h3.symm, kn, un, fn, tn, (askAt U F K (tRun U F K T n) n).2, b1, b2, b3, b4, hc2, ?_, fun r => ?_⟩
          · rw [List.getD_eq_getElem?_getD, List.getElem?_append_right (Nat.le_refl _), Nat.sub_self]; rfl
          · rw [List.take_append_of_le_length (Nat.le_refl _), List.take_length]; exact h4 r
theorem tRun_many_mono (h : TInv U F T) (n : Nat) : (tRun U F K T n).many ≤ (tRun U F K T (n + 1)).many := by
  have hc := askAt_cases (K := K) (h.run (K := K) n) n
  rw [tRun_succ]
  rcases hc with ⟨_, hc⟩ | ⟨_, hc⟩ | ⟨_, _, _, hc, _⟩
  · rw [hc]; exact Nat.le_refl _
  · rw [hc]; exact Nat.le_refl _
  · rw [hc]; omega
theorem tRun_many_le (h : TInv U F T) (hm0 : T.many = 0) (n : Nat) : (tRun U F K T n).many ≤ n := by
  induction n with
  | zero => rw [tRun, hm0]; exact Nat.le_refl _
  | succ n ih =>
    have hc := askAt_cases (K := K) (h.run (K := K) n) n
    rw [tRun_succ]
    rcases hc with ⟨_, hc⟩ | ⟨_, hc⟩ | ⟨_, _, _, hc, _⟩
    · rw [hc]; exact Nat.le_succ_of_le ih
    · rw [hc]; exact Nat.le_succ_of_le ih
    · rw [hc]; omega
/-- Opened of any beginning: the trail behind so many asks as have whole lines. -/
theorem open_torn (h : TInv U F T) (h0 : T.log = []) (hm0 : T.many = 0) (n k : Nat) :
    (((tRun U F K T n).log.take k).count 10 ≤ (tRun U F K T n).many) ∧
    ∀ j, j ≤ n → (tRun U F K T j).many = ((tRun U F K T n).log.take k).count 10 → tOpen U F T ((tRun U F K T n).log.take k) = (tRun U F K T j, (tRun U F K T j).many, 0) := by
  obtain ⟨ls, h1, h2, h3, h4, h5⟩ := tRun_lines (K := K) h h0 hm0 n
  have hcnt : ((tRun U F K T n).log.take k).count 10 ≤ (tRun U F K T n).many := by
    rw [h2, ← h3, ← flatE_count h1]
    exact (List.take_sublist _ _).count_le _
  refine ⟨hcnt, fun j hj hmj => ?_⟩
  unfold tOpen
  rw [h2] at hmj ⊢
  rw [cut_take h1, ← hmj]
  -- the first lines are those of the first asks
  obtain ⟨lj, g1, g2, g3, g4, _⟩ := tRun_lines (K := K) h h0 hm0 j
  have hpre : ∀ i, ∃ z, (tRun U F K T (j + i)).log = (tRun U F K T j).log ++ z := by
    intro i
    induction i with
    | zero => exact ⟨[], by rw [List.append_nil]; rfl⟩
    | succ i ih =>
      obtain ⟨z, hz⟩ := ih
      have hc := askAt_cases (K := K) (h.run (K := K) (j + i)) (j + i)
      rw [← Nat.add_assoc, tRun_succ]
      rcases hc with ⟨_, hc⟩ | ⟨_, hc⟩ | ⟨_, _, _, _, kn, un, fn, tn, _, _, _, _, hlog, _⟩
      · rw [hc]; exact ⟨z, hz⟩
      · rw [hc]; exact ⟨z, hz⟩
      · rw [hlog, hz]; exact ⟨_, List.append_assoc _ _ _⟩
  obtain ⟨z, hz⟩ := hpre (n - j)
  rw [show j + (n - j) = n by omega, h2, g2] at hz
  have hls : ls ++ [[]] = lj ++ cutL 10 z := by
    have e1 := cut_flat h1 []
    rw [List.append_nil, hz, cut_flat g1] at e1
    exact e1.symm
  have htake : ls.take (tRun U F K T j).many = lj := by
    have hle : lj.length ≤ ls.length := by
      have hcn : (cutL 10 z).length ≠ 0 := fun e => cutL_ne 10 z (List.length_eq_zero_iff.1 e)
      have := congrArg List.length hls
      rw [List.length_append, List.length_append, List.length_singleton] at this
      omega
    rw [← g3]
    have := congrArg (List.take lj.length) hls
    rw [List.take_append_of_le_length hle, List.take_append_of_le_length (Nat.le_refl _), List.take_length] at this
    exact this
  rw [htake]
  have := g4 []
  rw [List.append_nil] at this
  rw [this, tLines]
/-- Opened whole it is as it was. -/
theorem open_whole (h : TInv U F T) (h0 : T.log = []) (hm0 : T.many = 0) (n : Nat) : tOpen U F T (tRun U F K T n).log = (tRun U F K T n, (tRun U F K T n).many, 0) := by
  obtain ⟨ls, h1, h2, h3, _⟩ := tRun_lines (K := K) h h0 hm0 n
  have := (open_torn (K := K) h h0 hm0 n (tRun U F K T n).log.length).2 n (Nat.le_refl _) (by rw [List.take_length, h2, flatE_count h1, h3])
  rwa [List.take_length] at this

/-- Words as numbers: one by one. -/
theorem numsV_get : ∀ {ws : List (List UInt8)} {l : List Nat}, numsV ws = some l → l.length = ws.length ∧ ∀ i, i < ws.length → numV (ws.getD i []) = some (l.getD i 0)
  | [], l, h => by rw [numsV] at h; injection h with h; subst h; exact ⟨rfl, fun i hi => absurd hi (Nat.not_lt_zero _)⟩
  | x :: r, l, h => by
    rw [numsV] at h
    split at h
    · cases h
    · rename_i n hn
      split at h
      · cases h
      · obtain ⟨l', hl', rfl⟩ := Option.map_eq_some_iff.1 h
        obtain ⟨i1, i2⟩ := numsV_get hl'
        refine ⟨by simp [i1], fun i hi => ?_⟩
        cases i with
        | zero => exact hn
        | succ i => exact i2 i (by simpa using hi)
theorem tLine_short {s : List UInt8} (h : s.count 32 ≠ 5) : (tLine U F T s).2 = 2 := by
  unfold tLine
  dsimp only
  rw [if_pos (by rw [cutL_length]; omega)]
/-- Six words of which the numbers are not what the link says. -/
theorem tLine_clash {s : List UInt8} {ws : List (List UInt8)} (hw : cutL 32 s = ws) (hl : ws.length = 6) (h : ∀ l, numsV ws = some l → linkV T.chain (s.take (s.length - (ws.getD 5 []).length)) ≠ l.getD 5 0) : (tLine U F T s).2 = 2 ∨ (tLine U F T s).2 = 6 := by
  unfold tLine
  dsimp only
  rw [hw, if_neg (by omega)]
  cases hn : numsV ws with
  | none => exact .inl rfl
  | some l => dsimp only; rw [if_pos (h l hn)]; exact .inr rfl
theorem dig_of {c : UInt8} {n : Nat} (h : numV [c] = some n) : 48 ≤ c.toNat ∧ c.toNat ≤ 57 := by
  obtain ⟨h1, h2⟩ := numV_some h
  have := itoa_digs n c (by rw [h2]; exact List.mem_singleton_self _)
  unfold isD at this
  exact of_decide_eq_true this
theorem wsum10 (a b c d e f g h i j : UInt8) : wsum [a, b, c, d, e, f, g, h, i, j] 0 = a.toNat + 2 * b.toNat + 3 * c.toNat + 4 * d.toNat + 5 * e.toNat + 6 * f.toNat + 7 * g.toNat + 8 * h.toNat + 9 * i.toNat + 10 * j.toNat := by
  simp only [wsum]; omega
theorem nine {c : UInt8} {k : Nat} (hk : k < 10) (hc : c ≠ UInt8.ofNat (48 + k)) : c.toNat ≠ 48 + k := fun e => hc (by apply UInt8.toNat_inj.1; rw [e, nd_toNat hk])
theorem dig_ne {k : Nat} (hk : k < 10) {c : UInt8} (hc : isD c = false) : UInt8.ofNat (48 + k) ≠ c := fun e => by
  subst e
  unfold isD at hc
  rw [nd_toNat hk] at hc
  have := of_decide_eq_false hc
  omega
theorem turned_sum {S A B v : Nat} (hv : v = (S + A) % 9973) (h1 : A < B + 100) (h2 : B < A + 100) (h3 : A ≠ B) : (S + B) % 9973 ≠ v := by omega
set_option maxHeartbeats 16000000 in
/-- A line of which one byte is another one (no blank instead of a digit, nor the other way round: those are told by their words). -/
theorem tLine_turned {k u f t e : Nat} (hk : k < 10) (hu : u < 10) (hf : f < 10) (ht : t < 10) (he : e < 10) {i : Nat} (hi : i < (lineOf T k u f t e).length) {c : UInt8} (hc : (lineOf T k u f t e)[i]? ≠ some c) :
    (tLine U F T ((lineOf T k u f t e).set i c)).2 = 2 ∨ (tLine U F T ((lineOf T k u f t e).set i c)).2 = 6 := by
  have hcnt : (lineOf T k u f t e).count 32 = 5 := by
    have := cutL_length 32 (lineOf T k u f t e)
    rw [lineOf_cut] at this
    simp only [List.length_cons, List.length_nil] at this
    omega
  obtain ⟨x, hx⟩ : ∃ x, (lineOf T k u f t e)[i]? = some x := ⟨_, List.getElem?_eq_getElem hi⟩
  have hxe : (lineOf T k u f t e)[i] = x := by rw [List.getElem?_eq_getElem hi] at hx; injection hx
  have hxc : x ≠ c := fun e => hc (by rw [hx, e])
  have hset := List.count_set (l := lineOf T k u f t e) (i := i) (a := c) (b := 32) hi
  rw [hcnt, hxe] at hset
  by_cases hx32 : x = 32
  · left
    refine tLine_short ?_
    rw [hset, hx32]
    have : ¬ c = 32 := fun e => hxc (by rw [e, hx32])
    simp [this]
  · by_cases hc32 : c = 32
    · left
      refine tLine_short ?_
      rw [hset, hc32]
      simp [hx32]
    · clear hset hcnt
      have hlk := linkV_lt T.chain (sayT k u f t e)
      have hten := sayT_ten hk hu hf ht he
      have hfr := itoa_free (linkV T.chain (sayT k u f t e)) isD_32
      have hex : lineOf T k u f t e = sayT k u f t e ++ Lib.itoa (linkV T.chain (sayT k u f t e) : Int) := rfl
      have hv : (linkV T.chain (sayT k u f t e)) = (T.chain * 31 + wsum (sayT k u f t e) 0) % 9973 := rfl
      generalize linkV T.chain (sayT k u f t e) = v at *
      rw [hten] at hv
      rw [hten] at hex
      rw [hex] at hx ⊢
      clear hc hxe hex hten hi
      have wd : ∀ {q : Nat}, q < 10 → 32 ∉ [UInt8.ofNat (48 + q)] := fun hq hm => dig_ne hq isD_32 (List.mem_singleton.1 hm).symm
      have wc : 32 ∉ [c] := fun hm => hc32 (List.mem_singleton.1 hm).symm
      have key : ∀ (a b d g h : UInt8) (z : List UInt8), 32 ∉ [a] → 32 ∉ [b] → 32 ∉ [d] → 32 ∉ [g] → 32 ∉ [h] → 32 ∉ z → (∀ l, numsV [[a], [b], [d], [g], [h], z] = some l → (T.chain * 31 + wsum [a, 32, b, 32, d, 32, g, 32, h, 32] 0) % 9973 ≠ l.getD 5 0) →
          (tLine U F T ([a, 32, b, 32, d, 32, g, 32, h, 32] ++ z)).2 = 2 ∨ (tLine U F T ([a, 32, b, 32, d, 32, g, 32, h, 32] ++ z)).2 = 6 := by
        intro a b d g h z w1 w2 w3 w4 w5 w6 hl
        refine tLine_clash (ws := [[a], [b], [d], [g], [h], z]) (cut6 w1 w2 w3 w4 w5 w6) rfl fun l hn => ?_
        have := hl l hn
        rw [show ([[a], [b], [d], [g], [h], z] : List (List UInt8)).getD 5 [] = z from rfl, List.length_append, Nat.add_sub_cancel]
        rw [List.take_left']
        · exact this
        · rfl
      rcases Nat.lt_or_ge i 10 with hi | hi
      · have hz : ∀ l, ∀ a b d g h : UInt8, numsV [[a], [b], [d], [g], [h], Lib.itoa (v : Int)] = some l → l.getD 5 0 = v ∧ (48 ≤ a.toNat ∧ a.toNat ≤ 57) ∧ (48 ≤ b.toNat ∧ b.toNat ≤ 57) ∧ (48 ≤ d.toNat ∧ d.toNat ≤ 57) ∧ (48 ≤ g.toNat ∧ g.toNat ≤ 57) ∧ (48 ≤ h.toNat ∧ h.toNat ≤ 57) := by
          intro l a b d g h hn
          obtain ⟨_, hg⟩ := numsV_get hn
          have h5 := hg 5 (by simp)
          rw [show ([[a], [b], [d], [g], [h], Lib.itoa (v : Int)] : List (List UInt8)).getD 5 [] = Lib.itoa (v : Int) from rfl, numV_itoa (by omega)] at h5
          injection h5 with h5
          exact ⟨h5.symm, dig_of (hg 0 (by simp)), dig_of (hg 1 (by simp)), dig_of (hg 2 (by simp)), dig_of (hg 3 (by simp)), dig_of (hg 4 (by simp))⟩
        have t32 : (32 : UInt8).toNat = 32 := rfl
        have nk := nd_toNat hk
        have nu := nd_toNat hu
        have nf := nd_toNat hf
        have nt := nd_toNat ht
        have ne := nd_toNat he
        obtain ⟨S, hS⟩ : ∃ S, T.chain * 31 = S := ⟨_, rfl⟩
        obtain ⟨A, hA⟩ : ∃ A, wsum [UInt8.ofNat (48 + k), 32, UInt8.ofNat (48 + u), 32, UInt8.ofNat (48 + f), 32, UInt8.ofNat (48 + t), 32, UInt8.ofNat (48 + e), 32] 0 = A := ⟨_, rfl⟩
        rw [hA, hS] at hv
        rw [hS] at key
        rw [wsum10, nk, nu, nf, nt, ne, t32] at hA
        have Hv := Lib.hid hv
        clear hv hlk hS
        rcases (by omega : i = 0 ∨ i = 2 ∨ i = 4 ∨ i = 6 ∨ i = 8 ∨ i = 1 ∨ i = 3 ∨ i = 5 ∨ i = 7 ∨ i = 9) with rfl | rfl | rfl | rfl | rfl | rfl | rfl | rfl | rfl | rfl
        · have hq : c.toNat ≠ 48 + k := nine hk (fun e => hxc (by simp at hx; rw [e, ← hx]; simp))
          refine key c _ _ _ _ _ wc (wd hu) (wd hf) (wd ht) (wd he) hfr fun l hn => ?_
          obtain ⟨h5, h6, _⟩ := hz l _ _ _ _ _ hn
          obtain ⟨B, hB⟩ : ∃ B, wsum [c, 32, UInt8.ofNat (48 + u), 32, UInt8.ofNat (48 + f), 32, UInt8.ofNat (48 + t), 32, UInt8.ofNat (48 + e), 32] 0 = B := ⟨_, rfl⟩
          rw [h5, hB]
          rw [wsum10, nu, nf, nt, ne, t32] at hB
          exact turned_sum Hv.out (by omega) (by omega) (by omega)
        · have hq : c.toNat ≠ 48 + u := nine hu (fun e => hxc (by simp at hx; rw [e, ← hx]; simp))
          refine key _ c _ _ _ _ (wd hk) wc (wd hf) (wd ht) (wd he) hfr fun l hn => ?_
          obtain ⟨h5, _, h6, _⟩ := hz l _ _ _ _ _ hn
          obtain ⟨B, hB⟩ : ∃ B, wsum [UInt8.ofNat (48 + k), 32, c, 32, UInt8.ofNat (48 + f), 32, UInt8.ofNat (48 + t), 32, UInt8.ofNat (48 + e), 32] 0 = B := ⟨_, rfl⟩
          rw [h5, hB]
          rw [wsum10, nk, nf, nt, ne, t32] at hB
          exact turned_sum Hv.out (by omega) (by omega) (by omega)
        · have hq : c.toNat ≠ 48 + f := nine hf (fun e => hxc (by simp at hx; rw [e, ← hx]; simp))
          refine key _ _ c _ _ _ (wd hk) (wd hu) wc (wd ht) (wd he) hfr fun l hn => ?_
          obtain ⟨h5, _, _, h6, _⟩ := hz l _ _ _ _ _ hn
          obtain ⟨B, hB⟩ : ∃ B, wsum [UInt8.ofNat (48 + k), 32, UInt8.ofNat (48 + u), 32, c, 32, UInt8.ofNat (48 + t), 32, UInt8.ofNat (48 + e), 32] 0 = B := ⟨_, rfl⟩
          rw [h5, hB]
          rw [wsum10, nk, nu, nt, ne, t32] at hB
          exact turned_sum Hv.out (by omega) (by omega) (by omega)
        · have hq : c.toNat ≠ 48 + t := nine ht (fun e => hxc (by simp at hx; rw [e, ← hx]; simp))
          refine key _ _ _ c _ _ (wd hk) (wd hu) (wd hf) wc (wd he) hfr fun l hn => ?_
          obtain ⟨h5, _, _, _, h6, _⟩ := hz l _ _ _ _ _ hn
          obtain ⟨B, hB⟩ : ∃ B, wsum [UInt8.ofNat (48 + k), 32, UInt8.ofNat (48 + u), 32, UInt8.ofNat (48 + f), 32, c, 32, UInt8.ofNat (48 + e), 32] 0 = B := ⟨_, rfl⟩
          rw [h5, hB]
          rw [wsum10, nk, nu, nf, ne, t32] at hB
          exact turned_sum Hv.out (by omega) (by omega) (by omega)
        · have hq : c.toNat ≠ 48 + e := nine he (fun e => hxc (by simp at hx; rw [e, ← hx]; simp))
          refine key _ _ _ _ c _ (wd hk) (wd hu) (wd hf) (wd ht) wc hfr fun l hn => ?_
          obtain ⟨h5, _, _, _, _, h6⟩ := hz l _ _ _ _ _ hn
          obtain ⟨B, hB⟩ : ∃ B, wsum [UInt8.ofNat (48 + k), 32, UInt8.ofNat (48 + u), 32, UInt8.ofNat (48 + f), 32, UInt8.ofNat (48 + t), 32, c, 32] 0 = B := ⟨_, rfl⟩
          rw [h5, hB]
          rw [wsum10, nk, nu, nf, nt, t32] at hB
          exact turned_sum Hv.out (by omega) (by omega) (by omega)
        all_goals exact absurd (by simpa using hx.symm) hx32
      · obtain ⟨j, rfl⟩ : ∃ j, i = 10 + j := ⟨i - 10, by omega⟩
        have hset2 : ([UInt8.ofNat (48 + k), 32, UInt8.ofNat (48 + u), 32, UInt8.ofNat (48 + f), 32, UInt8.ofNat (48 + t), 32, UInt8.ofNat (48 + e), 32] ++ Lib.itoa (v : Int)).set (10 + j) c = [UInt8.ofNat (48 + k), 32, UInt8.ofNat (48 + u), 32, UInt8.ofNat (48 + f), 32, UInt8.ofNat (48 + t), 32, UInt8.ofNat (48 + e), 32] ++ (Lib.itoa (v : Int)).set j c := by
          rw [List.set_append_right _ _ (by simp)]
          simp
        rw [hset2]
        have hxj : (Lib.itoa (v : Int))[j]? = some x := by
          rw [List.getElem?_append_right (by simp)] at hx
          simpa using hx
        refine key _ _ _ _ _ _ (wd hk) (wd hu) (wd hf) (wd ht) (wd he) (fun hm => ?_) fun l hn => ?_
        · rcases List.mem_or_eq_of_mem_set hm with h1 | h1
          · exact hfr h1
          · exact hc32 h1.symm
        · obtain ⟨_, hg⟩ := numsV_get hn
          have h5 := (numV_some (hg 5 (by simp))).2
          rw [show ([[UInt8.ofNat (48 + k)], [UInt8.ofNat (48 + u)], [UInt8.ofNat (48 + f)], [UInt8.ofNat (48 + t)], [UInt8.ofNat (48 + e)], (Lib.itoa (v : Int)).set j c] : List (List UInt8)).getD 5 [] = (Lib.itoa (v : Int)).set j c from rfl] at h5
          rw [← hv]
          intro hve
          rw [← hve] at h5
          have h6 : ((Lib.itoa (v : Int)).set j c)[j]? = some c := by rw [List.getElem?_set_self (List.getElem?_eq_some_iff.1 hxj).1]
          have h7 := (congrArg (fun q : List UInt8 => q[j]?) h5 : _)
          have h7 : (Lib.itoa (v : Int))[j]? = ((Lib.itoa (v : Int)).set j c)[j]? := h7
          rw [hxj, h6] at h7
          injection h7 with h7
          exact hxc h7
end
/-- The line in which a byte stands, and where. -/
theorem flat_at : ∀ {ls : List (List UInt8)}, (∀ x ∈ ls, 10 ∉ x) → ∀ {i : Nat}, i < (flatE ls).length → (flatE ls)[i]? ≠ some 10 → ∀ c : UInt8, c ≠ 10 →
    ∃ m p, m < ls.length ∧ m = ((flatE ls).take i).count 10 ∧ p < (ls.getD m []).length ∧ (ls.getD m [])[p]? = (flatE ls)[i]? ∧ cutL 10 ((flatE ls).set i c) = ls.set m ((ls.getD m []).set p c) ++ [[]]
  | [], _, i, h, _, c, hc => by rw [flatE_nil] at h; exact absurd h (Nat.not_lt_zero _)
  | x :: ls, h, i, hi, h10, c, hc => by
    have hx := h x (List.mem_cons_self ..)
    have hr := fun y hy => h y (List.mem_cons_of_mem x hy)
    rw [flatE_cons] at hi h10 ⊢
    rcases Nat.lt_or_ge i x.length with hlt | hge
    · refine ⟨0, i, by simp, ?_, hlt, ?_, ?_⟩
      · rw [List.take_append_of_le_length (by omega)]
        exact (List.count_eq_zero.2 (fun hm => hx (List.mem_of_mem_take hm))).symm
      · rw [List.getElem?_append_left hlt]; rfl
      · rw [List.set_append_left _ _ hlt]
        have hf : 10 ∉ x.set i c := fun hm => by
          rcases List.mem_or_eq_of_mem_set hm with h1 | h1
          · exact hx h1
          · exact hc h1.symm
        rw [cutL_at hf]
        have := cut_flat hr []
        rw [List.append_nil] at this
        rw [this]; rfl
    · rcases Nat.eq_or_lt_of_le hge with he | hgt
      · exfalso
        apply h10
        rw [List.getElem?_append_right hge, ← he, Nat.sub_self]; rfl
      · obtain ⟨j, rfl⟩ : ∃ j, i = x.length + (j + 1) := ⟨i - x.length - 1, by omega⟩
        rw [List.length_append, List.length_cons] at hi
        have e1 : (x ++ 10 :: flatE ls)[x.length + (j + 1)]? = (flatE ls)[j]? := by
          rw [List.getElem?_append_right (by omega), Nat.add_sub_cancel_left, List.getElem?_cons_succ]
        rw [e1] at h10
        obtain ⟨m, p, h1, h2, h3, h4, h5⟩ := flat_at hr (i := j) (by omega) h10 c hc
        refine ⟨m + 1, p, by simp; omega, ?_, h3, ?_, ?_⟩
        · rw [List.take_length_add_append, List.take_succ_cons, List.count_append, List.count_cons_self, List.count_eq_zero.2 hx, h2]; omega
        · rw [e1]; exact h4
        · rw [List.set_append_right _ _ (by omega), Nat.add_sub_cancel_left, List.set_cons_succ, cutL_at hx, h5]; rfl
section
variable {U F K : List Int} {T : TS}
/-- A byte that was turned is told. -/
theorem open_turned (h : TInv U F T) (h0 : T.log = []) (hm0 : T.many = 0) (n : Nat) {i : Nat} {c : UInt8} (hi : i < (tRun U F K T n).log.length) (h10 : (tRun U F K T n).log[i]? ≠ some 10) (hc : c ≠ 10) (hne : (tRun U F K T n).log[i]? ≠ some c) :
    ∃ T' code, tOpen U F T ((tRun U F K T n).log.set i c) = (T', ((tRun U F K T n).log.take i).count 10 + 1, code) ∧ (code = 2 ∨ code = 6) := by
  obtain ⟨ls, h1, h2, h3, h4, h5⟩ := tRun_lines (K := K) h h0 hm0 n
  rw [h2] at hi h10 hne ⊢
  obtain ⟨m, p, g1, g2, g3, g4, g5⟩ := flat_at h1 hi h10 c hc
  obtain ⟨j, hj, hmj, kn, un, fn, tn, e, b1, b2, b3, b4, b5, hline, htl⟩ := h5 m g1
  rw [← g4, hline] at hne
  rw [hline] at g3 g5
  have hturn := tLine_turned (U := U) (F := F) (T := tRun U F K T j) b1 b2 b3 b4 b5 g3 hne
  unfold tOpen
  rw [g5, List.dropLast_concat, ← g2]
  have hset : ls.set m ((lineOf (tRun U F K T j) kn un fn tn e).set p c) = ls.take m ++ ((lineOf (tRun U F K T j) kn un fn tn e).set p c :: ls.drop (m + 1)) := List.set_eq_take_append_cons_drop .. |>.trans (by rw [if_pos g1])
  rw [hset, htl, tLines, if_pos (by omega), hmj]
  exact ⟨_, _, rfl, hturn⟩
end
end Go.Proofs.YtanlmfnhlldkeaaGreatDoor
